
/- The walks of what the laws on trays use, and of their draws. -/
import Derived.Test.YtfhnjpjlpddpmaaDoorTyDrawE
import Derived.Test.YtfhnjpjlpddpmaaDoorTyLawA
import Derived.Test.YtfhnjpjlpddpmaaDoorTyLaw2
import Derived.Laws.StructEq
namespace Go.Proofs.YtfhnjpjlpddpmaaDoor
open Go.RowKit
set_option linter.unusedVariables false

/-- Letters compared. -/
theorem ltr_neq (x y : Ltr) (w : World) : (binOp .neq 35 (.agg #[.int .i64 x.1, .string x.2]) (.agg #[.int .i64 y.1, .string y.2])).run Tryd.prog w = .ok (.bool (!(decide (x = y)))) w := by
  have hu := Tryd.underlying35
  have h1 := Tryd.underlying3
  have h2 := Tryd.underlying9
  have ht : Tryd.prog.underlying 35 = some (.struct (Tryd.prog.fieldsOf 35)) := by kernel_rfl
  have hs : Tryd.prog.stoodInHeld 35 = false := by kernel_rfl
  have hf : Tryd.prog.fieldsOf 35 = #[{ name := "Id", type := 3, offset := 0, embedded := false, tag := "", pkgPath := "", byteOffset := 0 }, { name := "Code", type := 9, offset := 1, embedded := false, tag := "", pkgPath := "", byteOffset := 8 }] := by kernel_rfl
  rw [run_neq_struct, run_equalIn_agg w 9999 _ _ _ ht hs, hf]
  by_cases e1 : x.1 = y.1
  · by_cases e2 : x.2 = y.2
    · have e : x = y := Prod.ext e1 e2
      simp [Op.eqFields, e, part, isAgg, run_underlying h1, run_underlying h2, run_equalIn_int w _ _ _ _ _ _ h1, run_equalIn_string w _ _ _ _ h2]
    · have e : ¬ x = y := fun h => e2 (by rw [h])
      have g2 := str_diff e2
      simp [Op.eqFields, e, e1, g2, part, isAgg, run_underlying h1, run_underlying h2, run_equalIn_int w _ _ _ _ _ _ h1, run_equalIn_string w _ _ _ _ h2]
  · have e : ¬ x = y := fun h => e1 (by rw [h])
    simp [Op.eqFields, e, e1, part, isAgg, run_underlying h1, run_underlying h2, run_equalIn_int w _ _ _ _ _ _ h1]
theorem ltr_guard (op : BinOp) (a b : Operand) (x y : Ltr) (w : World) : (eqGuard op 35 a b (.agg #[.int .i64 x.1, .string x.2]) (.agg #[.int .i64 y.1, .string y.2])).run Tryd.prog w = .ok () w := run_eqGuard_agg w op _ a b _ _ (by kernel_rfl)
attribute [local go_sem ↓] ltr_neq ltr_guard

theorem fill_small {size d : Nat} {xs : List Ltr} (hs : 1 ≤ size) (hl : xs.length ≤ 20) (hx : ∀ x ∈ xs, x.2.size = 7 ∧ digs x.2 = true) : (fillT size d xs).length ≤ 1000 ∧ ∀ t ∈ fillT size d xs, t.length ≤ 60 ∧ ∀ x ∈ t, x.2.size = 7 := by
  have h1 := (fill_all (size := size) (d := d) hs xs)
  have h2 := len_sum (fillT size d xs) fun t ht => (h1.1.one t ht).1
  rw [h1.2] at h2
  refine ⟨by omega, fun t ht => ⟨?_, fun x hxt => (hx x ?_).1⟩⟩
  · have := (List.sublist_flatten_of_mem ht).length_le
    rw [h1.2] at this; omega
  · rw [← h1.2]; exact List.mem_flatten.2 ⟨t, ht, hxt⟩
theorem szs_of {yss : List (List Ltr)} (h : ∀ ys ∈ yss, ys.length ≤ 61 ∧ ∀ y ∈ ys, y.2.size ≤ 101) : ∀ ys ∈ yss, Szs ys := fun ys hy x hx => by have := (h ys hy).2 x hx; unfold maxLen; omega
set_option maxHeartbeats 800000 in
theorem draw_empty (A : Option Addr) (c : Nat) (bs : List Int) (w : World) (h : Coded w A bs c) :
    Calls Tryd.prog 22 #[.slice A bs.length c] w fun e w' => ∃ (v : Value) (xss : List (List Ltr)), e = .returned v ∧ LtS w' v xss ∧ xss.length ≤ 1001 ∧ (∀ xs ∈ xss, Szs xs ∧ xs.length ≤ 61) ∧ Below w.heap.size w w' := by
  go_enter Tryd.func22, Tryd.ntmps22
  go_wp2_with fail
  refine (coded_open h).mono ?_
  rintro e w1 ⟨rfl, hr, hb, hl⟩
  have Hb := Lib.hid hb
  have Hl := Lib.hid hl
  have H2 := Lib.hid (trays_any w.heap.size 0 w1 hr (by omega))
  clear h hr hb hl
  go_wp2_with fail
  refine H2.out.mono ?_
  rintro e w2 ⟨v, xs, size, d, q, rfl, ho, hxl, hxs, hs1, hs2, hd8, hq, hd⟩
  obtain ⟨hf1, hf2⟩ := fill_small (size := size) (d := d) hs1 hxl hxs
  have H3 := Lib.hid (bad5_any w.heap.size q w1.heap.size v _ w2 hd.reader Hl.out hd.size ho hf1 hf2 (by omega))
  have Hd := Lib.hid hd
  clear H2 hd ho hf1 hf2 hxs
  go_wp2_with fail
  refine H3.out.mono ?_
  rintro e w3 ⟨u, yss, q3, rfl, hls, hyl, hys, hq3, hr3, hd3⟩
  have Hd3 := Lib.hid (hd3 w1 Hd.out (Nat.le_refl _))
  have Hls := Lib.hid hls
  have Hys := Lib.hid hys
  clear H3 hd3 hr3 hls hys
  go_wp2_with fail
  go_ret
  exact ⟨_, yss, rfl, Hls.out.lts, hyl, fun ys hy => ⟨szs_of Hys.out ys hy, (Hys.out ys hy).1⟩, dst_below Hb.out Hl.out Hd3.out⟩

end Go.Proofs.YtfhnjpjlpddpmaaDoor
