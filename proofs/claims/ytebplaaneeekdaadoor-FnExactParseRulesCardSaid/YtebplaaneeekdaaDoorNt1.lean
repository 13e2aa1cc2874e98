
/- The walks of the small functions on rules: copies, comparisons, sizes, marks. -/
import Derived.Test.YtebplaaneeekdaaDoorNtMem
import Derived.Test.YtebplaaneeekdaaDoorApp
import Derived.Test.YtebplaaneeekdaaDoorStr
import Derived.Laws.IdiomStrings
namespace Go.Proofs.YtebplaaneeekdaaDoor
open Go.RowKit
set_option linter.unusedVariables false

theorem rul_info : (Tryd.prog.info? 32).map (fun i => (i.zero, i.size, i.bytes)) = some (some (.agg #[.string ⟨#[]⟩, .string ⟨#[]⟩]), 2, 32) := by kernel_rfl
theorem rul_elem : ElemInfo Tryd.prog 22 32 2 32 := elemInfo_of Tryd.underlying22 rul_info rfl (by decide)
theorem below_alloc {B : Nat} {a w : World} (h : Below B a w) (hB : B ≤ w.heap.size) (o : Obj) : Below B a (w.alloc o) := h.alloc hB o

theorem below2 (w : World) (a b : Obj) : Below w.heap.size w ((w.alloc a).alloc b) := ((Below.refl _ _).alloc (Nat.le_refl _) _).alloc (by simp) _
set_option maxHeartbeats 400000 in
theorem eqRule_any (x y : Rul) (w : World) :
    Calls Tryd.prog 15 #[.agg #[.string x.1, .string x.2], .agg #[.string y.1, .string y.2]] w fun e w' => e = .returned (.bool (decide (x = y))) ∧ Below w.heap.size w w' := by
  by_cases h1 : x.1 = y.1
  · have e1 := str_same h1
    have H1 := Lib.hid h1
    clear h1
    by_cases h2 : x.2 = y.2
    · have e2 := str_same h2
      have H2 := Lib.hid h2
      clear h2
      go_enter Tryd.func15, Tryd.ntmps15
      go_wp2_with fail
      go_ret
      exact ⟨ret_bool (decide_eq_true (Prod.ext H1.out H2.out)).symm, below2 _ _ _⟩
    · have e2 := str_diff h2
      go_enter Tryd.func15, Tryd.ntmps15
      go_wp2_with fail
      go_ret
      exact ⟨ret_bool (decide_eq_false (fun e => h2 (by rw [e]))).symm, below2 _ _ _⟩
  · have e1 := str_diff h1
    go_enter Tryd.func15, Tryd.ntmps15
    go_wp2_with fail
    go_ret
    exact ⟨ret_bool (decide_eq_false (fun e => h1 (by rw [e]))).symm, below2 _ _ _⟩

set_option maxRecDepth 100000 in
set_option maxHeartbeats 800000 in
theorem eqR (v u : Value) (xs ys : List Rul) (w : World) (h : Rt w v xs) (hu : Rt w u ys) :
    Calls Tryd.prog 6 #[v, u] w fun e w' => e = .returned (.bool (decide (xs = ys))) ∧ Below w.heap.size w w' := by
  obtain ⟨A, c, rfl, hA, hc1, hc2⟩ := h
  obtain ⟨D, d, rfl, hD, hd1, hd2⟩ := hu
  unfold maxLen at hc2 hd2
  by_cases hl : xs.length = ys.length
  · have Hl := Lib.hid hl
    have hl1 : ((xs.length : Int) != (ys.length : Int)) = false := by simp [hl]
    clear hl
    go_enter Tryd.func6, Tryd.ntmps6
    go_wp2_with fail
    go_loopw [5] (fun i wr => ∃ k : Nat, k ≤ xs.length ∧ i = .int .i64 k ∧ Below w.heap.size w wr ∧ Hid (xs.take k = ys.take k)) (fun i _ => xs.length - (intOf i).toNat)
    case atStart => exact ⟨0, Nat.zero_le _, rfl, Below.refl _ _, Lib.hid rfl⟩
    case round =>
      obtain ⟨k, hk, rfl, hb, heq⟩ := hrel
      by_cases hlt : k < xs.length
      · obtain ⟨ad, x, rfl, hx, hcA, hcB⟩ := (hA.below hb).two hlt
        have hlt2 : k < ys.length := by have := Hl.out; omega
        obtain ⟨ad2, y, rfl, hy, hcC, hcD⟩ := (hD.below hb).two hlt2
        have Hx := Lib.hid hx
        have Hy := Lib.hid hy
        simp only [rtf] at hcA hcB hcC hcD
        clear hx hy
        go_wp2_with fail
        go_still_tail 8, (by kernel_rfl)
        go_wp2_with fail
        refine (eqRule_any x y _).mono ?_
        rintro e w2 ⟨rfl, hb2⟩
        replace hb := below_trans' hb.drew hb2
        by_cases hxy : x = y
        · rw [decide_eq_true hxy]
          have Hxy := Lib.hid hxy
          clear hxy hb2
          go_wp2_with fail
          go_roundw
          case rel => exact ⟨k + 1, by omega, by go_num, hb, Lib.hid (by rw [take_snoc Hx.out, take_snoc Hy.out, heq.out, Hxy.out])⟩
          case measure => simp [intOf]; omega
        · rw [decide_eq_false hxy]
          have Hxy := Lib.hid hxy
          clear hxy hb2
          go_wp2_with fail
          go_ret
          exact ⟨ret_bool (by
            rw [decide_eq_false]
            rintro rfl
            have := Hx.out.symm.trans Hy.out
            injection this with this
            exact Hxy.out this), hb⟩
      · have hk' : k = xs.length := by omega
        subst hk'
        go_wp2_with fail
        go_ret
        exact ⟨ret_bool (by
          have h1 := heq.out
          rw [List.take_length, Hl.out, List.take_length] at h1
          exact (decide_eq_true h1).symm), hb⟩
  · have hl1 : ((xs.length : Int) != (ys.length : Int)) = true := by simp; omega
    go_enter Tryd.func6, Tryd.ntmps6
    go_wp2_with fail
    go_ret
    exact ⟨ret_bool (by rw [decide_eq_false]; rintro rfl; exact hl rfl), Below.refl _ _⟩


/-- The bytes of all codes. -/
def szs (xs : List Rul) : Nat := (xs.map fun x => x.1.size + x.2.size).sum
theorem szs_snoc {xs : List Rul} {k : Nat} {x : Rul} (h : xs[k]? = some x) : szs (xs.take (k + 1)) = szs (xs.take k) + (x.1.size + x.2.size) := by
  rw [szs, take_snoc h, List.map_append, List.sum_append]; simp [szs]
/-- A string of one byte. -/
theorem conv_one (w : World) (n : Nat) (x : Int) (hx : x = (n : Int)) (hn : n < 256) :
    (convert 45 9 (.slice (some ⟨w.heap.size, 0, none⟩) 1 1)).run Tryd.prog (w.alloc (.cells #[.int .u8 x] 5)) = .ok (.string (one8 n)) (w.alloc (.cells #[.int .u8 x] 5)) := by
  refine run_convert_bytes_back _ _ _ 5 _ 1 [n.toUInt8] Tryd.underlying45 Tryd.underlying5 Tryd.underlying9 (fun j hj => ?_)
  have hj0 : j = 0 := by simp at hj; omega
  subst hj0
  have e1 : (⟨w.heap.size, 0, none⟩ : Addr).add 0 = ⟨w.heap.size, 0, none⟩ := by simp [Addr.add]
  rw [e1, World.cell?_alloc_at _ _ _ _ rfl, hx]
  have : n.toUInt8.toNat = n := by rw [UInt8.toNat_ofNat']; omega
  simp [this]
theorem mtD_zero (f : Nat) (out : ByteArray) : mtD f out 0 = out := by cases f <;> simp [mtD]
theorem mtD_go {f k : Nat} (out : ByteArray) (hk : k ≠ 0) : mtD (f + 1) out k = mtD f (one8 (48 + k % 10) ++ out) (k / 10) := by rw [mtD, if_neg hk]
set_option maxRecDepth 100000 in
set_option maxHeartbeats 400000 in
theorem markText_any (k : Nat) (w : World) (hk : k ≤ 1099511627776) :
    Calls Tryd.prog 16 #[.int .i64 k] w fun e w' => e = .returned (.string (mt k)) ∧ Below w.heap.size w w' := by
  by_cases h0 : k = 0
  · subst h0
    go_enter Tryd.func16, Tryd.ntmps16
    go_wp2_with fail
    go_ret
    exact ⟨rfl, Below.refl _ _⟩
  · have hk1 : 0 < (k : Int) := by omega
    go_enter Tryd.func16, Tryd.ntmps16
    go_wp2_with fail
    go_loopw [0, 3] (fun n s wr => ∃ (j f : Nat) (out : ByteArray), n = .int .i64 j ∧ s = .string out ∧ j ≤ k ∧ j ≤ f ∧ f ≤ k ∧ out.size ≤ k ∧ Below w.heap.size w wr ∧ Hid (out.size + f = k) ∧ Hid (mtD f out j = mtD k ⟨#[]⟩ k)) (fun n _ _ => (intOf n).toNat)
    case atStart => exact ⟨k, k, ⟨#[]⟩, rfl, rfl, Nat.le_refl _, Nat.le_refl _, Nat.le_refl _, Nat.zero_le _, Below.refl _ _, Lib.hid (by show 0 + k = k; omega), Lib.hid rfl⟩
    case round =>
      obtain ⟨j, f, out, rfl, rfl, hjk, hjf, hfk, hos, hb, hsz, heq⟩ := hrel
      by_cases hj : 0 < j
      · obtain ⟨f, rfl⟩ : ∃ q, f = q + 1 := ⟨f - 1, by omega⟩
        have hj' : (0 : Int) < (j : Int) := by omega
        have hcv := conv_one wr (48 + j % 10) (48 + (j : Int) % 10) (by omega) (by omega)
        have hcs := one8_size (48 + j % 10)
        have hosz : out.size ≤ 1099511627776 := by omega
        have Heq := Lib.hid (mtD_go (f := f) out (by omega : j ≠ 0))
        go_wp2_with fail
        go_roundw
        case rel => exact ⟨j / 10, f, _, by go_num, rfl, by omega, by omega, by omega, by have := hsz.out; rw [ByteArray.size_append, hcs]; omega, hb.alloc hb.size _, Lib.hid (by have := hsz.out; rw [ByteArray.size_append, hcs]; omega), Lib.hid (by rw [← Heq.out]; exact heq.out)⟩
        case measure => simp [intOf]; omega
      · have : j = 0 := by omega
        subst this
        have hmt := heq.out
        rw [mtD_zero] at hmt
        have hm2 : mt k = ⟨#[109]⟩ ++ out := by rw [mt, if_neg h0, hmt]
        have Hm2 := Lib.hid hm2
        have h109 : (⟨#[109]⟩ : ByteArray).size = 1 := rfl
        clear hmt hm2
        go_wp2_with fail
        go_ret
        exact ⟨ret_str Hm2.out.symm, hb⟩

end Go.Proofs.YtebplaaneeekdaaDoor
