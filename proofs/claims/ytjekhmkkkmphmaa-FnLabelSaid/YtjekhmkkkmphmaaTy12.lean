/- The contracts of RepackTrays. -/
import Derived.Test.YtjekhmkkkmphmaaTy11
namespace Go.Proofs.Ytjekhmkkkmphmaa
open Go.RowKit
set_option linter.unusedVariables false

/-- Trays repacked, and whether. -/
def rok (xss : List (List Ltr)) (size : Int) : Bool := tv xss 20 && inB size 1 20
def rpk (xss : List (List Ltr)) (size : Int) : List (List Ltr) := if rok xss size then fbp xss.flatten size 0 else []
theorem rok_tv {xss : List (List Ltr)} {size : Int} (h : tv xss 20 = false) : rok xss size = false := by simp [rok, h]
theorem rok_size {xss : List (List Ltr)} {size : Int} (h : inB size 1 20 = false) : rok xss size = false := by simp [rok, h]
theorem rok_mk {xss : List (List Ltr)} {size : Int} (h : tv xss 20 = true) (h2 : inB size 1 20 = true) : rok xss size = true := by simp [rok, h, h2]
theorem rpk_no {xss : List (List Ltr)} {size : Int} (h : rok xss size = false) : rpk xss size = [] := by simp [rpk, h]
theorem rpk_yes {xss : List (List Ltr)} {size : Int} (h : rok xss size = true) : rpk xss size = fbp xss.flatten size 0 := by simp [rpk, h]
theorem rpk_fok {xss : List (List Ltr)} {size : Int} (h : tv xss 20 = true) (h2 : inB size 1 20 = true) : fok xss.flatten size 0 = true := fok_mk (tv_parts h).2.2.2 h2 (by decide)
theorem rpk_own {w : World} {lo hi : Nat} {u : Value} {xss : List (List Ltr)} {size : Int} (he : rok xss size = false) (h : OLL w lo hi u []) : OLL w lo hi u (rpk xss size) := by rw [rpk_no he]; exact h
theorem rpk_small {xss : List (List Ltr)} {size : Int} : (rpk xss size).length ≤ 60 ∧ (∀ t ∈ rpk xss size, t.length ≤ 60) ∧ (rpk xss size).flatten.length ≤ 60 := by
  cases h : rok xss size with
  | false => rw [rpk_no h]; simp
  | true => rw [rpk_yes h]; exact fbp_small

set_option maxRecDepth 100000 in
set_option maxHeartbeats 800000 in
theorem raw_rp (v : Value) (xss : List (List Ltr)) (size : Int) (w : World) (h : LtS w v xss) (hs : ∀ xs ∈ xss, Szs xs) :
    Calls Try.prog 82 #[v, .int .i64 size] w fun e w' => ∃ u, e = .returned (.tuple #[u, .bool (rok xss size)]) ∧ OLL w' w.heap.size w'.heap.size u (rpk xss size) ∧ Below w.heap.size w w' := by
  have Htv := Lib.hid (spec_tv v xss 20 w h hs)
  have Hv := Lib.hid h
  clear h hs
  go_enter Try.func82, Try.ntmps82
  go_wp2_with fail
  refine Htv.out.mono ?_
  rintro e w2 ⟨rfl, hb⟩
  have Hb := Lib.hid hb
  clear hb Htv
  cases h1 : tv xss 20 with
  | false =>
    have Hno := Lib.hid (rok_tv (size := size) h1)
    clear h1
    go_wp2_with fail
    go_ret2
    exact ⟨_, by rw [Hno.out]; rfl, rpk_own Hno.out ((oll_lit0 w2).wide Hb.out.size (Nat.le_refl _)), Hb.out.alloc Hb.out.size _⟩
  | true =>
    go_wp2_with fail
    refine (size_spec _ _).mono ?_
    rintro e w2' ⟨rfl, rfl⟩
    cases h2 : inB size 1 20 with
    | false =>
      have Hno := Lib.hid (rok_size (xss := xss) h2)
      clear h1 h2
      go_wp2_with fail
      go_ret2
      exact ⟨_, by rw [Hno.out]; rfl, rpk_own Hno.out ((oll_lit0 w2).wide Hb.out.size (Nat.le_refl _)), Hb.out.alloc Hb.out.size _⟩
    | true =>
      have hok := rok_mk h1 h2
      have hfk := rpk_fok h1 h2
      obtain ⟨p1, p2, p3⟩ := fok_parts hfk
      obtain ⟨sz, rfl⟩ := Int.eq_ofNat_of_zero_le (a := size) (by omega)
      have hj := joinS v xss w2 (Hv.out.below Hb.out) (by have := flat_small h1; omega)
      have Hj := Lib.hid hj
      have Hok := Lib.hid hok
      have Hfk := Lib.hid hfk
      have hsz1 : 1 ≤ sz := by omega
      have hsz2 : sz ≤ 20 := by omega
      clear hj hok hfk p1 p2 p3 h1 h2
      go_wp2_with fail
      refine Hj.out.mono ?_
      rintro e w3 ⟨u, rfl, ho, hb3⟩
      have hf := spec_fill u _ sz 0 w3 ho.sl (code7 (fok_parts Hfk.out).1) (bv_parts (fok_parts Hfk.out).1).1 hsz1 hsz2 (by omega)
      have Hf := Lib.hid hf
      have Hb3 := Lib.hid (below_trans' Hb.out hb3)
      clear hf ho hb3 Hj
      go_wp2_with fail
      refine Hf.out.mono ?_
      rintro e w4 ⟨u4, rfl, ho4, hb4⟩
      go_wp2_with fail
      go_ret2
      exact ⟨_, by rw [Hok.out]; rfl, by rw [rpk_yes Hok.out, show fbp xss.flatten sz 0 = fillT sz 0 xss.flatten from fbp_yes (d := 0) Hfk.out]; exact ho4.wide Hb3.out.size (Nat.le_refl _), below_trans' Hb3.out hb4⟩
set_option maxRecDepth 100000 in
set_option maxHeartbeats 800000 in
theorem spec_rp (v : Value) (xss : List (List Ltr)) (size : Int) (w : World) (h : LtS w v xss) (hs : ∀ xs ∈ xss, Szs xs) :
    Calls Try.prog 53 #[v, .int .i64 size] w fun e w' => ∃ u, e = .returned (.tuple #[u, .bool (rok xss size)]) ∧ OLL w' w.heap.size w'.heap.size u (rpk xss size) ∧ Below w.heap.size w w' := by
  have H1 := Lib.hid (raw_rp v xss size w h hs)
  clear h hs
  go_enter Try.func53, Try.ntmps53
  go_wp2_with fail
  refine H1.out.mono ?_
  rintro e w2 ⟨u, rfl, ho, hb⟩
  have hc := own_copy u _ w2 ho.lts (by have := (rpk_small (xss := xss) (size := size)).1; omega) (fun t ht => by have := (rpk_small (xss := xss) (size := size)).2.1 t ht; omega)
  have Hc := Lib.hid hc
  have Hb := Lib.hid hb
  clear hc ho hb H1
  go_wp2_with fail
  refine Hc.out.mono ?_
  rintro e w3 ⟨u3, rfl, ho3, hb3⟩
  go_wp2_with fail
  go_ret2
  exact ⟨_, rfl, ho3.wide Hb.out.size (Nat.le_refl _), below_trans' Hb.out hb3⟩
set_option maxRecDepth 100000 in
set_option maxHeartbeats 800000 in
theorem impl_rp (v : Value) (xss : List (List Ltr)) (size : Int) (w : World) (h : LtS w v xss) (hs : ∀ xs ∈ xss, Szs xs) :
    Calls Try.prog 54 #[v, .int .i64 size] w fun e w' => ∃ u, e = .returned (.tuple #[u, .bool (rok xss size)]) ∧ OLL w' w.heap.size w'.heap.size u (rpk xss size) ∧ Below w.heap.size w w' := by
  have H1 := Lib.hid (impl_empty v xss w h hs)
  have Hs := Lib.hid hs
  clear h hs
  go_enter Try.func54, Try.ntmps54
  go_wp2_with fail
  refine H1.out.mono ?_
  rintro e w2 ⟨u, rfl, ho, hb⟩
  have Hb := Lib.hid hb
  have Ho := Lib.hid ho
  clear hb ho H1
  cases h1 : tv xss 20 with
  | false =>
    have Hno := Lib.hid (rok_tv (size := size) h1)
    clear h1
    go_wp2_with fail
    go_ret2
    exact ⟨_, by rw [Hno.out]; rfl, rpk_own Hno.out (oll_nil _ _ _), Hb.out⟩
  | true =>
    go_wp2_with fail
    refine (size_impl _ _).mono ?_
    rintro e w2' ⟨rfl, rfl⟩
    cases h2 : inB size 1 20 with
    | false =>
      have Hno := Lib.hid (rok_size (xss := xss) h2)
      clear h1 h2
      go_wp2_with fail
      go_ret2
      exact ⟨_, by rw [Hno.out]; rfl, rpk_own Hno.out (oll_nil _ _ _), Hb.out⟩
    | true =>
      have hok := rok_mk h1 h2
      have hfk := rpk_fok h1 h2
      have ho2 := Ho.out.sl
      rw [emp_yes h1] at ho2
      have hf := impl_ft u _ size w2 ho2 (szs_flat Hs.out)
      rw [hfk, ← rpk_yes hok] at hf
      have Hf := Lib.hid hf
      have Hok := Lib.hid hok
      clear hf hok hfk h1 h2 ho2
      go_wp2_with fail
      refine Hf.out.mono ?_
      rintro e w3 ⟨u3, rfl, ho3, hb3⟩
      go_wp2_with fail
      go_ret2
      exact ⟨_, by rw [Hok.out]; rfl, ho3.wide Hb.out.size (Nat.le_refl _), below_trans' Hb.out hb3⟩

end Go.Proofs.Ytjekhmkkkmphmaa
