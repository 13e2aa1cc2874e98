
/- The walks of the small functions on rules: copies, comparisons, sizes, marks. -/
import Derived.Test.YthmngaioimohaaaNtMem
import Derived.Test.YthmngaioimohaaaApp
import Derived.Test.YthmngaioimohaaaStr
import Derived.Laws.IdiomStrings
namespace Go.Proofs.Ythmngaioimohaaa
open Go.RowKit
set_option linter.unusedVariables false

theorem rul_info : (Try.prog.info? 50).map (fun i => (i.zero, i.size, i.bytes)) = some (some (.agg #[.string ⟨#[]⟩, .string ⟨#[]⟩]), 2, 32) := by kernel_rfl
theorem rul_elem : ElemInfo Try.prog 44 50 2 32 := elemInfo_of Try.underlying44 rul_info rfl (by decide)
theorem below_alloc {B : Nat} {a w : World} (h : Below B a w) (hB : B ≤ w.heap.size) (o : Obj) : Below B a (w.alloc o) := h.alloc hB o

set_option maxHeartbeats 400000 in
theorem toRule_any (x : Rul) (w : World) :
    Calls Try.prog 59 #[.agg #[.string x.1, .string x.2]] w fun e w' => e = .returned (.agg #[.string x.1, .string x.2]) ∧ Below w.heap.size w w' := by
  go_enter Try.func59, Try.ntmps59
  go_wp2_with fail
  refine bodyPost_ret (v := .agg #[.string x.1, .string x.2]) (by simp [results, Try.results59, go_sem]) rfl ⟨rfl, ?_⟩
  exact (((Below.refl _ _).alloc (Nat.le_refl _) _).alloc (by simp) _).alloc (by simp; omega) _

theorem below2 (w : World) (a b : Obj) : Below w.heap.size w ((w.alloc a).alloc b) := ((Below.refl _ _).alloc (Nat.le_refl _) _).alloc (by simp) _
set_option maxHeartbeats 400000 in
theorem eqRule_any (x y : Rul) (w : World) :
    Calls Try.prog 60 #[.agg #[.string x.1, .string x.2], .agg #[.string y.1, .string y.2]] w fun e w' => e = .returned (.bool (decide (x = y))) ∧ Below w.heap.size w w' := by
  by_cases h1 : x.1 = y.1
  · have e1 := str_same h1
    have H1 := Lib.hid h1
    clear h1
    by_cases h2 : x.2 = y.2
    · have e2 := str_same h2
      have H2 := Lib.hid h2
      clear h2
      go_enter Try.func60, Try.ntmps60
      go_wp2_with fail
      go_ret
      exact ⟨ret_bool (decide_eq_true (Prod.ext H1.out H2.out)).symm, below2 _ _ _⟩
    · have e2 := str_diff h2
      go_enter Try.func60, Try.ntmps60
      go_wp2_with fail
      go_ret
      exact ⟨ret_bool (decide_eq_false (fun e => h2 (by rw [e]))).symm, below2 _ _ _⟩
  · have e1 := str_diff h1
    go_enter Try.func60, Try.ntmps60
    go_wp2_with fail
    go_ret
    exact ⟨ret_bool (decide_eq_false (fun e => h1 (by rw [e]))).symm, below2 _ _ _⟩

set_option maxRecDepth 100000 in
set_option maxHeartbeats 800000 in
theorem toR (v : Value) (xs : List Rul) (w : World) (h : Rt w v xs) (hn : xs.length ≤ 1048576) :
    Calls Try.prog 44 #[v] w fun e w' => ∃ u, e = .returned u ∧ Own w' w.heap.size w'.heap.size 50 2 u xs.length (rcs xs) ∧ Below w.heap.size w w' := by
  obtain ⟨A, c, rfl, hA, hc1, hc2⟩ := h
  obtain ⟨i0, hi, hz0, hz1, hz2⟩ := info_parts rul_info
  go_enter Try.func44, Try.ntmps44
  go_wp2_with (at_make; refine wpList_make_full _ rfl _ _ _ rfl w.heap.size 50 i0 _ 2 Try.underlying44 hi hz0 hz1 _ _ _ _ xs.length rfl rfl rfl rfl (by rw [hz2]; omega) (by unfold maxLen; omega) (Nat.le_refl _) ?_; intro w1 hown1 hg1)
  have hmade : (madeCells (Value.agg #[.string ⟨#[]⟩, .string ⟨#[]⟩]).cells (xs.length * 2)).toList = rcs (List.replicate xs.length ((⟨#[]⟩ : ByteArray), (⟨#[]⟩ : ByteArray))) := made2 rtf ((⟨#[]⟩ : ByteArray), (⟨#[]⟩ : ByteArray)) xs.length
  rw [hmade] at hown1
  have hb1 : Below w.heap.size w w1 := (Below.refl _ _).grown hg1 (Nat.le_refl _) (by simp)
  have H0 : Hid (∃ ys, Filled ys xs 0 ∧ w1.ownsRow w.heap.size 50 2 (.slice (some ⟨w.heap.size, 0, none⟩) xs.length xs.length) xs.length (rcs ys)) := ⟨_, Filled.start, hown1⟩
  clear hown1 hg1 hmade
  go_loopw [4] (fun i wr => ∃ k : Nat, k ≤ xs.length ∧ i = .int .i64 k ∧ Below w.heap.size w wr ∧ Hid (∃ ys, Filled ys xs k ∧ wr.ownsRow w.heap.size 50 2 (.slice (some ⟨w.heap.size, 0, none⟩) xs.length xs.length) xs.length (rcs ys))) (fun i _ => xs.length - (intOf i).toNat)
  case atStart => exact ⟨0, Nat.zero_le _, rfl, hb1, H0⟩
  case round =>
    obtain ⟨k, hk, rfl, hb, hys⟩ := hrel
    clear H0 hb1
    by_cases hlt : k < xs.length
    · obtain ⟨ad, x, rfl, hx, hcA, hcB⟩ := (hA.below hb).two hlt
      have Hx := Lib.hid hx
      simp only [rtf] at hcA hcB
      clear hx
      go_wp2_with fail
      refine (toRule_any x _).mono ?_
      rintro e w2 ⟨rfl, hb2⟩
      obtain ⟨ys, hf, hown⟩ := hys.out
      replace hown := own_below hown hb2
      replace hb := below_trans' hb hb2
      have hyk : k < ys.length := by rw [hf.len]; exact hlt
      obtain ⟨hg0, hg1⟩ := cs2_get (f := rtf) (List.getElem?_eq_getElem hyk)
      have hc2 : w2.cell? ⟨w.heap.size, k * 2, none⟩ = some (.string ys[k].1) := (hown.cellAt _ (by omega)).trans hg0
      have hc3 : w2.cell? ⟨w.heap.size, k * 2 + 1, none⟩ = some (.string ys[k].2) := (hown.cellAt _ (by omega)).trans hg1
      have hfz : w2.frozen? ⟨w.heap.size, k * 2, none⟩ = false := hown.frozenAt _
      have hfz2 : w2.frozen? ⟨w.heap.size, k * 2 + 1, none⟩ = false := hown.frozenAt _
      have hst := ((hown.stored (k * 2) (rtf x).1).1.stored (k * 2 + 1) (rtf x).2).1
      rw [cs2_set] at hst
      have Hst := Lib.hid hst
      have Hf := Lib.hid (hf.step Hx.out)
      clear hst hown hf hys hb2 hg0 hg1
      go_wp2_with fail
      go_roundw
      case rel => exact ⟨k + 1, by omega, by go_num, (hb.setCell (Nat.le_refl _) _).setCell (Nat.le_refl _) _, ⟨_, Hf.out, Hst.out⟩⟩
      case measure => simp [intOf]; omega
    · have hk' : k = xs.length := by omega
      subst hk'
      obtain ⟨ys, hf, hown⟩ := hys.out
      have := hf.done
      subst this
      go_wp2_with fail
      go_ret
      exact ⟨_, rfl, own_of (own_base hown (Nat.le_refl _)), hb⟩

set_option maxRecDepth 100000 in
set_option maxHeartbeats 800000 in
theorem eqR (v u : Value) (xs ys : List Rul) (w : World) (h : Rt w v xs) (hu : Rt w u ys) :
    Calls Try.prog 47 #[v, u] w fun e w' => e = .returned (.bool (decide (xs = ys))) ∧ Below w.heap.size w w' := by
  obtain ⟨A, c, rfl, hA, hc1, hc2⟩ := h
  obtain ⟨D, d, rfl, hD, hd1, hd2⟩ := hu
  unfold maxLen at hc2 hd2
  by_cases hl : xs.length = ys.length
  · have Hl := Lib.hid hl
    have hl1 : ((xs.length : Int) != (ys.length : Int)) = false := by simp [hl]
    clear hl
    go_enter Try.func47, Try.ntmps47
    go_wp2_with fail
    go_loopw [5] (fun i wr => ∃ k : Nat, k ≤ xs.length ∧ i = .int .i64 k ∧ Below w.heap.size w wr ∧ Hid (xs.take k = ys.take k)) (fun i _ => xs.length - (intOf i).toNat)
    case atStart => exact ⟨0, Nat.zero_le _, rfl, Below.refl _ _, Lib.hid rfl⟩
    case round =>
      obtain ⟨k, hk, rfl, hb, heq⟩ := hrel
      by_cases hlt : k < xs.length
      · obtain ⟨ad, x, rfl, hx, hcA, hcB⟩ := (hA.below hb).two hlt
        have hlt2 : k < ys.length := by have := Hl.out; omega
        obtain ⟨ad2, y, rfl, hy, hcC, hcD⟩ := (hD.below hb).two hlt2
        have Hx := Lib.hid hx
        have Hy := Lib.hid hy
        simp only [rtf] at hcA hcB hcC hcD
        clear hx hy
        go_wp2_with fail
        go_still_tail 8, (by kernel_rfl)
        go_wp2_with fail
        refine (eqRule_any x y _).mono ?_
        rintro e w2 ⟨rfl, hb2⟩
        replace hb := below_trans' hb.drew hb2
        by_cases hxy : x = y
        · rw [decide_eq_true hxy]
          have Hxy := Lib.hid hxy
          clear hxy hb2
          go_wp2_with fail
          go_roundw
          case rel => exact ⟨k + 1, by omega, by go_num, hb, Lib.hid (by rw [take_snoc Hx.out, take_snoc Hy.out, heq.out, Hxy.out])⟩
          case measure => simp [intOf]; omega
        · rw [decide_eq_false hxy]
          have Hxy := Lib.hid hxy
          clear hxy hb2
          go_wp2_with fail
          go_ret
          exact ⟨ret_bool (by
            rw [decide_eq_false]
            rintro rfl
            have := Hx.out.symm.trans Hy.out
            injection this with this
            exact Hxy.out this), hb⟩
      · have hk' : k = xs.length := by omega
        subst hk'
        go_wp2_with fail
        go_ret
        exact ⟨ret_bool (by
          have h1 := heq.out
          rw [List.take_length, Hl.out, List.take_length] at h1
          exact (decide_eq_true h1).symm), hb⟩
  · have hl1 : ((xs.length : Int) != (ys.length : Int)) = true := by simp; omega
    go_enter Try.func47, Try.ntmps47
    go_wp2_with fail
    go_ret
    exact ⟨ret_bool (by rw [decide_eq_false]; rintro rfl; exact hl rfl), Below.refl _ _⟩


set_option maxHeartbeats 400000 in
theorem szRule_any (x : Rul) (left : Int) (w : World) (h0 : 0 ≤ left) (h1 : left ≤ 1048576) (hs : x.1.size ≤ maxLen ∧ x.2.size ≤ maxLen) :
    Calls Try.prog 58 #[.agg #[.string x.1, .string x.2], .int .i64 left] w fun e w' => (∃ z : Int, e = .returned (.int .i64 z) ∧ -1 ≤ z ∧ z ≤ left ∧ (0 ≤ z → z = left - (x.1.size + x.2.size : Nat))) ∧ Below w.heap.size w w' := by
  obtain ⟨hs1, hs2⟩ := hs
  unfold maxLen at hs1 hs2
  by_cases hlt : left - x.1.size < 0
  · go_enter Try.func58, Try.ntmps58
    go_wp2_with fail
    go_ret
    exact ⟨⟨-1, rfl, by omega, by omega, by omega⟩, (Below.refl _ _).alloc (Nat.le_refl _) _⟩
  · by_cases hlt2 : left - x.1.size - x.2.size < 0
    · go_enter Try.func58, Try.ntmps58
      go_wp2_with fail
      go_ret
      exact ⟨⟨-1, rfl, by omega, by omega, by omega⟩, (Below.refl _ _).alloc (Nat.le_refl _) _⟩
    · go_enter Try.func58, Try.ntmps58
      go_wp2_with fail
      go_ret
      exact ⟨⟨_, rfl, by omega, by omega, fun _ => by push_cast; omega⟩, (Below.refl _ _).alloc (Nat.le_refl _) _⟩

/-- The bytes of all codes. -/
def szs (xs : List Rul) : Nat := (xs.map fun x => x.1.size + x.2.size).sum
theorem szs_snoc {xs : List Rul} {k : Nat} {x : Rul} (h : xs[k]? = some x) : szs (xs.take (k + 1)) = szs (xs.take k) + (x.1.size + x.2.size) := by
  rw [szs, take_snoc h, List.map_append, List.sum_append]; simp [szs]
set_option maxRecDepth 100000 in
set_option maxHeartbeats 800000 in
theorem szR (v : Value) (xs : List Rul) (left : Int) (w : World) (h : Rt w v xs) (hs : ∀ x ∈ xs, x.1.size ≤ maxLen ∧ x.2.size ≤ maxLen) (h0 : 0 ≤ left) (h1 : left ≤ 1048576) :
    Calls Try.prog 41 #[v, .int .i64 left] w fun e w' => (∃ z : Int, e = .returned (.int .i64 z) ∧ -1 ≤ z ∧ z ≤ left ∧ (0 ≤ z → (xs.length : Int) + szs xs + z = left)) ∧ Below w.heap.size w w' := by
  obtain ⟨A, c, rfl, hA, hc1, hc2⟩ := h
  unfold maxLen at hc2
  have Hs := Lib.hid hs
  clear hs
  by_cases hlt : left - xs.length < 0
  · go_enter Try.func41, Try.ntmps41
    go_wp2_with fail
    go_ret
    exact ⟨⟨-1, rfl, by omega, by omega, by omega⟩, Below.refl _ _⟩
  · go_enter Try.func41, Try.ntmps41
    go_wp2_with fail
    go_loopw [1, 5] (fun l i wr => ∃ (k : Nat) (z : Int), k ≤ xs.length ∧ i = .int .i64 k ∧ l = .int .i64 z ∧ 0 ≤ z ∧ z ≤ left ∧ Below w.heap.size w wr ∧ Hid (z = left - xs.length - szs (xs.take k))) (fun _ i _ => xs.length - (intOf i).toNat)
    case atStart => exact ⟨0, _, Nat.zero_le _, rfl, rfl, by omega, by omega, Below.refl _ _, Lib.hid (by simp [szs])⟩
    case round =>
      obtain ⟨k, z, hk, rfl, rfl, hz0, hz1, hb, hz⟩ := hrel
      by_cases hkl : k < xs.length
      · obtain ⟨ad, x, rfl, hx, hcA, hcB⟩ := (hA.below hb).two hkl
        have Hx := Lib.hid hx
        have hxs := Hs.out x (List.mem_of_getElem? hx)
        simp only [rtf] at hcA hcB
        clear hx
        go_wp2_with fail
        refine (szRule_any x z _ hz0 (by omega) hxs).mono ?_
        rintro e w2 ⟨⟨y, rfl, hy0, hy1, hy⟩, hb2⟩
        replace hb := below_trans' hb hb2
        have Hy := Lib.hid hy
        clear hy hb2
        by_cases hyn : y < 0
        · go_wp2_with fail
          go_ret
          exact ⟨⟨-1, rfl, by omega, by omega, by omega⟩, hb⟩
        · go_wp2_with fail
          go_roundw
          case rel => exact ⟨k + 1, y, by omega, by go_num, rfl, by omega, by omega, hb, Lib.hid (by rw [szs_snoc Hx.out, Hy.out (by omega), hz.out]; omega)⟩
          case measure => simp [intOf]; omega
      · have hk' : k = xs.length := by omega
        subst hk'
        go_wp2_with fail
        go_ret
        exact ⟨⟨z, rfl, by omega, by omega, fun _ => by have := hz.out; rw [List.take_length] at this; omega⟩, hb⟩

/-- A string of one byte. -/
theorem conv_one (w : World) (n : Nat) (x : Int) (hx : x = (n : Int)) (hn : n < 256) :
    (convert 67 9 (.slice (some ⟨w.heap.size, 0, none⟩) 1 1)).run Try.prog (w.alloc (.cells #[.int .u8 x] 5)) = .ok (.string (one8 n)) (w.alloc (.cells #[.int .u8 x] 5)) := by
  refine run_convert_bytes_back _ _ _ 5 _ 1 [n.toUInt8] Try.underlying67 Try.underlying5 Try.underlying9 (fun j hj => ?_)
  have hj0 : j = 0 := by simp at hj; omega
  subst hj0
  have e1 : (⟨w.heap.size, 0, none⟩ : Addr).add 0 = ⟨w.heap.size, 0, none⟩ := by simp [Addr.add]
  rw [e1, World.cell?_alloc_at _ _ _ _ rfl, hx]
  have : n.toUInt8.toNat = n := by rw [UInt8.toNat_ofNat']; omega
  simp [this]
theorem mtD_zero (f : Nat) (out : ByteArray) : mtD f out 0 = out := by cases f <;> simp [mtD]
theorem mtD_go {f k : Nat} (out : ByteArray) (hk : k ≠ 0) : mtD (f + 1) out k = mtD f (one8 (48 + k % 10) ++ out) (k / 10) := by rw [mtD, if_neg hk]
set_option maxRecDepth 100000 in
set_option maxHeartbeats 400000 in
theorem markText_any (k : Nat) (w : World) (hk : k ≤ 1099511627776) :
    Calls Try.prog 39 #[.int .i64 k] w fun e w' => e = .returned (.string (mt k)) ∧ Below w.heap.size w w' := by
  by_cases h0 : k = 0
  · subst h0
    go_enter Try.func39, Try.ntmps39
    go_wp2_with fail
    go_ret
    exact ⟨rfl, Below.refl _ _⟩
  · have hk1 : 0 < (k : Int) := by omega
    go_enter Try.func39, Try.ntmps39
    go_wp2_with fail
    go_loopw [0, 3] (fun n s wr => ∃ (j f : Nat) (out : ByteArray), n = .int .i64 j ∧ s = .string out ∧ j ≤ k ∧ j ≤ f ∧ f ≤ k ∧ out.size ≤ k ∧ Below w.heap.size w wr ∧ Hid (out.size + f = k) ∧ Hid (mtD f out j = mtD k ⟨#[]⟩ k)) (fun n _ _ => (intOf n).toNat)
    case atStart => exact ⟨k, k, ⟨#[]⟩, rfl, rfl, Nat.le_refl _, Nat.le_refl _, Nat.le_refl _, Nat.zero_le _, Below.refl _ _, Lib.hid (by show 0 + k = k; omega), Lib.hid rfl⟩
    case round =>
      obtain ⟨j, f, out, rfl, rfl, hjk, hjf, hfk, hos, hb, hsz, heq⟩ := hrel
      by_cases hj : 0 < j
      · obtain ⟨f, rfl⟩ : ∃ q, f = q + 1 := ⟨f - 1, by omega⟩
        have hj' : (0 : Int) < (j : Int) := by omega
        have hcv := conv_one wr (48 + j % 10) (48 + (j : Int) % 10) (by omega) (by omega)
        have hcs := one8_size (48 + j % 10)
        have hosz : out.size ≤ 1099511627776 := by omega
        have Heq := Lib.hid (mtD_go (f := f) out (by omega : j ≠ 0))
        go_wp2_with fail
        go_roundw
        case rel => exact ⟨j / 10, f, _, by go_num, rfl, by omega, by omega, by omega, by have := hsz.out; rw [ByteArray.size_append, hcs]; omega, hb.alloc hb.size _, Lib.hid (by have := hsz.out; rw [ByteArray.size_append, hcs]; omega), Lib.hid (by rw [← Heq.out]; exact heq.out)⟩
        case measure => simp [intOf]; omega
      · have : j = 0 := by omega
        subst this
        have hmt := heq.out
        rw [mtD_zero] at hmt
        have hm2 : mt k = ⟨#[109]⟩ ++ out := by rw [mt, if_neg h0, hmt]
        have Hm2 := Lib.hid hm2
        have h109 : (⟨#[109]⟩ : ByteArray).size = 1 := rfl
        clear hmt hm2
        go_wp2_with fail
        go_ret
        exact ⟨ret_str Hm2.out.symm, hb⟩

end Go.Proofs.Ythmngaioimohaaa
