
/- The contracts of FillByPrefix, FillTrays, RepackTrays. -/
import Derived.Test.YtaadjjadpacclaaTy10
namespace Go.Proofs.Ytaadjjadpacclaa
open Go.RowKit
set_option linter.unusedVariables false

theorem fbp_own {w : World} {lo hi : Nat} {u : Value} {xs : List Ltr} {size d : Int} (he : fok xs size d = false) (h : OLL w lo hi u []) : OLL w lo hi u (fbp xs size d) := by rw [fbp_no he]; exact h
set_option maxRecDepth 100000 in
set_option maxHeartbeats 800000 in
theorem raw_fbp (v : Value) (xs : List Ltr) (size d : Int) (w : World) (h : Lt w v xs) (hs : Szs xs) :
    Calls Try.prog 24 #[v, .int .i64 size, .int .i64 d] w fun e w' => ∃ u, e = .returned (.tuple #[u, .bool (fok xs size d)]) ∧ OLL w' w.heap.size w'.heap.size u (fbp xs size d) ∧ Below w.heap.size w w' := by
  have Hbv := Lib.hid (spec_bv v xs w h hs)
  have Hv := Lib.hid h
  clear h hs
  go_enter Try.func24, Try.ntmps24
  go_wp2_with fail
  refine Hbv.out.mono ?_
  rintro e w2 ⟨rfl, hb⟩
  have Hb := Lib.hid hb
  clear hb Hbv
  cases h1 : bv xs with
  | false =>
    have Hno := Lib.hid (fok_bv (size := size) (d := d) h1)
    clear h1
    go_wp2_with fail
    go_ret2
    exact ⟨_, by rw [Hno.out]; rfl, fbp_own Hno.out ((oll_lit0 w2).wide Hb.out.size (Nat.le_refl _)), Hb.out.alloc Hb.out.size _⟩
  | true =>
    go_wp2_with fail
    refine (size_spec _ _).mono ?_
    rintro e w2' ⟨rfl, rfl⟩
    cases h2 : inB size 1 20 with
    | false =>
      have Hno := Lib.hid (fok_size (xs := xs) (d := d) h2)
      clear h1 h2
      go_wp2_with fail
      go_ret2
      exact ⟨_, by rw [Hno.out]; rfl, fbp_own Hno.out ((oll_lit0 w2).wide Hb.out.size (Nat.le_refl _)), Hb.out.alloc Hb.out.size _⟩
    | true =>
      go_wp2_with fail
      refine (in_any _ _ _ _).mono ?_
      rintro e w2' ⟨rfl, rfl⟩
      cases h3 : inB d 0 7 with
      | false =>
        have Hno := Lib.hid (fok_d (xs := xs) (size := size) h3)
        clear h1 h2 h3
        go_wp2_with fail
        go_ret2
        exact ⟨_, by rw [Hno.out]; rfl, fbp_own Hno.out ((oll_lit0 w2).wide Hb.out.size (Nat.le_refl _)), Hb.out.alloc Hb.out.size _⟩
      | true =>
        have hok := fok_mk h1 h2 h3
        obtain ⟨p1, p2, p3⟩ := fok_parts hok
        obtain ⟨sz, rfl⟩ := Int.eq_ofNat_of_zero_le (a := size) (by omega)
        obtain ⟨dd, rfl⟩ := Int.eq_ofNat_of_zero_le p3.1
        have hf := spec_fill v xs sz dd w2 (Hv.out.below Hb.out) (code7 h1) (bv_parts h1).1 (by omega) (by omega) (by omega)
        have Hf := Lib.hid hf
        have Hok := Lib.hid hok
        clear hf hok p1 p2 p3 h1 h2 h3
        go_wp2_with fail
        refine Hf.out.mono ?_
        rintro e w3 ⟨u, rfl, ho, hb3⟩
        go_wp2_with fail
        go_ret2
        exact ⟨_, by rw [Hok.out]; rfl, by rw [fbp_yes Hok.out]; exact ho.wide Hb.out.size (Nat.le_refl _), below_trans' Hb.out hb3⟩
set_option maxRecDepth 100000 in
set_option maxHeartbeats 800000 in
theorem spec_fbp (v : Value) (xs : List Ltr) (size d : Int) (w : World) (h : Lt w v xs) (hs : Szs xs) :
    Calls Try.prog 7 #[v, .int .i64 size, .int .i64 d] w fun e w' => ∃ u, e = .returned (.tuple #[u, .bool (fok xs size d)]) ∧ OLL w' w.heap.size w'.heap.size u (fbp xs size d) ∧ Below w.heap.size w w' := by
  have H1 := Lib.hid (raw_fbp v xs size d w h hs)
  clear h hs
  go_enter Try.func7, Try.ntmps7
  go_wp2_with fail
  refine H1.out.mono ?_
  rintro e w2 ⟨u, rfl, ho, hb⟩
  have hc := own_copy u _ w2 ho.lts (by have := (fbp_small (xs := xs) (size := size) (d := d)).1; omega) (fun t ht => by have := (fbp_small (xs := xs) (size := size) (d := d)).2.1 t ht; omega)
  have Hc := Lib.hid hc
  have Hb := Lib.hid hb
  clear hc ho hb H1
  go_wp2_with fail
  refine Hc.out.mono ?_
  rintro e w3 ⟨u3, rfl, ho3, hb3⟩
  go_wp2_with fail
  go_ret2
  exact ⟨_, rfl, ho3.wide Hb.out.size (Nat.le_refl _), below_trans' Hb.out hb3⟩
set_option maxRecDepth 100000 in
set_option maxHeartbeats 800000 in
theorem impl_fbp (v : Value) (xs : List Ltr) (size d : Int) (w : World) (h : Lt w v xs) (hs : Szs xs) :
    Calls Try.prog 6 #[v, .int .i64 size, .int .i64 d] w fun e w' => ∃ u, e = .returned (.tuple #[u, .bool (fok xs size d)]) ∧ OLL w' w.heap.size w'.heap.size u (fbp xs size d) ∧ Below w.heap.size w w' := by
  cases hok : fok xs size d with
  | true =>
    obtain ⟨p1, p2, p3⟩ := fok_parts hok
    obtain ⟨sz, rfl⟩ := Int.eq_ofNat_of_zero_le (a := size) (by omega)
    obtain ⟨dd, rfl⟩ := Int.eq_ofNat_of_zero_le p3.1
    have hf := impl_fill v xs sz dd w h hs p1 (by omega) (by omega) (by omega)
    rw [← fbp_yes hok] at hf
    exact hf
  | false =>
    have Hno := Lib.hid hok
    have Hbv := Lib.hid (impl_bv v xs w h hs)
    clear h hs
    go_enter Try.func6, Try.ntmps6
    go_wp2_with fail
    refine Hbv.out.mono ?_
    rintro e w2 ⟨rfl, hb⟩
    have Hb := Lib.hid hb
    clear hb Hbv
    cases h1 : bv xs with
    | false =>
      clear h1 hok
      go_wp2_with fail
      go_ret2
      exact ⟨_, rfl, fbp_own Hno.out (oll_nil _ _ _), Hb.out⟩
    | true =>
      go_wp2_with fail
      refine (size_impl _ _).mono ?_
      rintro e w2' ⟨rfl, rfl⟩
      cases h2 : inB size 1 20 with
      | false =>
        clear h1 h2 hok
        go_wp2_with fail
        go_ret2
        exact ⟨_, rfl, fbp_own Hno.out (oll_nil _ _ _), Hb.out⟩
      | true =>
        have h3 : inB d 0 7 = false := by
          cases h3 : inB d 0 7 with
          | false => rfl
          | true => rw [fok_mk h1 h2 h3] at hok; cases hok
        rcases inB_false.1 h3 with h4 | h4
        · clear h1 h2 h3 hok
          go_wp2_with fail
          go_ret2
          exact ⟨_, rfl, fbp_own Hno.out (oll_nil _ _ _), Hb.out⟩
        · have h5 : decide (d < 0) = false := decide_eq_false (by omega)
          clear h1 h2 h3 hok
          go_wp2_with fail
          go_ret2
          exact ⟨_, rfl, fbp_own Hno.out (oll_nil _ _ _), Hb.out⟩

end Go.Proofs.Ytaadjjadpacclaa
