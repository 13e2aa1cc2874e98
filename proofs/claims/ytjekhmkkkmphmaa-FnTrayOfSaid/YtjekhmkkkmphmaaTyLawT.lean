/- The walk of the law on where a letter is. -/
import Derived.Test.YtjekhmkkkmphmaaTyLawC
namespace Go.Proofs.Ytjekhmkkkmphmaa
open Go.RowKit
set_option linter.unusedVariables false

theorem soPlace_any (v : Value) (xs : List Ltr) (id : Int) (w : World) (h : Lt w v xs) (hs : Szs xs) :
    Calls Try.prog 52 #[v, .int .i64 id] w fun e w' => e = .returned (.int .i64 (findI xs id)) ∧ Below w.heap.size w w' := by
  have H := Lib.hid (impl_find v xs id w h hs)
  clear h hs
  go_enter Try.func52, Try.ntmps52
  go_wp2_with fail
  refine H.out.mono ?_
  rintro e w2 ⟨rfl, hb⟩
  go_wp2_with fail
  go_ret
  exact ⟨rfl, hb⟩
theorem findI_ge (xs : List Ltr) (id : Int) : findI xs id = -1 ∨ 0 ≤ findI xs id := by
  unfold findI
  split
  · split
    · right; omega
    · left; rfl
  · left; rfl

/-- Tray m of a slice of trays: its cell. -/
theorem LtS.at_ {w : World} {D : Option Addr} {n d : Nat} {xss : List (List Ltr)} (h : LtS w (.slice D n d) xss) {m : Nat} (hm : m < n) : ∃ ad u x, D = some ad ∧ xss[m]? = some x ∧ w.cell? (ad.add m) = some u ∧ Lt w u x := by
  obtain ⟨us, ⟨A, c, e, hA, _, _⟩, hus⟩ := h
  injection e with e1 e2 e3
  subst e1
  have hl := hus.len
  obtain ⟨p, x, hp, hx, hpx⟩ := hus.at_ (k := m) (by omega)
  obtain ⟨ad, e4, hc⟩ := hA m _ hp
  exact ⟨ad, p, x, e4, hx, hc, hpx⟩
theorem LtS.num {w : World} {D : Option Addr} {n d : Nat} {xss : List (List Ltr)} (h : LtS w (.slice D n d) xss) : n = xss.length := by
  obtain ⟨us, ⟨A, c, e, hA, _, _⟩, hus⟩ := h
  injection e with e1 e2 e3
  rw [e2, hus.len]
set_option maxRecDepth 100000 in
set_option maxHeartbeats 1600000 in
theorem law_FnTrayOf (A : Option Addr) (c : Nat) (bs : List Int) (w : World) (h0 : Coded0 w A bs c) :
    Calls Try.prog 13 #[.slice A bs.length c] w fun e w' => e = .returned (.bool true) ∧ Below w.heap.size w w' := by
  by_cases hbig : 1048576 < bs.length
  · go_enter Try.func13, Try.ntmps13
    go_wp2_with fail
    go_ret
    exact ⟨rfl, Below.refl _ _⟩
  have Hdr := Lib.hid (draw_trayof A c bs w (h0.coded hbig))
  clear h0
  go_enter Try.func13, Try.ntmps13
  go_wp2_with fail
  refine Hdr.out.mono ?_
  rintro e w1 ⟨v, xss, id, rfl, h, hl, hs, hb⟩
  have Hs : Hid (∀ xs ∈ xss, Szs xs) := Lib.hid fun xs hx => (hs xs hx).1
  have Hb := Lib.hid hb
  have H := Lib.hid h
  obtain ⟨k, hk⟩ : ∃ k, k = trayI xss id := ⟨_, rfl⟩
  have Hk := Lib.hid hk
  have H1 := Lib.hid (impl_trayof v xss id w1 h Hs.out)
  rw [← hk] at H1
  have t0 : (k != k) = false := by simp
  have t1 : (k == k) = true := by simp
  clear hs hb h Hdr hk
  go_wp2_with fail
  refine H1.out.mono ?_
  rintro e w2 ⟨rfl, hb2⟩
  replace H := Lib.hid (H.out.below hb2)
  replace Hb := Lib.hid (below_trans' Hb.out hb2)
  have H2 := Lib.hid (spec_trayof v xss id w2 H.out Hs.out)
  rw [← Hk.out] at H2
  clear H1 hb2
  go_wp2_with fail
  refine H2.out.mono ?_
  rintro e w3 ⟨rfl, hb3⟩
  replace H := Lib.hid (H.out.below hb3)
  replace Hb := Lib.hid (below_trans' Hb.out hb3)
  have H3 := Lib.hid (impl_tv v xss 20 w3 H.out Hs.out)
  clear H2 hb3
  cases htv : tv xss 20 with
  | false =>
    rw [htv] at H3
    have Hno := Lib.hid htv
    have hk : k = -1 := Hk.out.trans (trayI_no htv)
    clear htv
    go_wp2_with fail
    refine H3.out.mono ?_
    rintro e w5 ⟨rfl, hb5⟩
    replace H := Lib.hid (H.out.below hb5)
    replace Hb := Lib.hid (below_trans' Hb.out hb5)
    have H4 := Lib.hid (spec_trayof v xss id w5 H.out Hs.out)
    rw [← Hk.out] at H4
    clear H3 hb5
    go_wp2_with fail
    refine H4.out.mono ?_
    rintro e w6 ⟨rfl, hb6⟩
    replace Hb := Lib.hid (below_trans' Hb.out hb6)
    have H7 := Lib.hid (impl_tv v xss 20 w6 (H.out.below hb6) Hs.out)
    rw [Hno.out] at H7
    have t2 : (k == -1) = true := by simp [hk]
    clear hb6 H4
    go_wp2_with fail
    refine H7.out.mono ?_
    rintro e w7 ⟨rfl, hb7⟩
    go_wp2_with fail
    go_ret
    exact ⟨rfl, below_trans' Hb.out hb7⟩
  | true =>
    rw [htv] at H3
    have Hyes := Lib.hid htv
    clear htv
    have h := H.out
    obtain ⟨us, ⟨D, d, rfl, hD, hd1, hd2⟩, hus⟩ := h
    unfold maxLen at hd2
    have Hul := Lib.hid hus.len
    clear hD hus
    go_wp2_with fail
    refine H3.out.mono ?_
    rintro e w5 ⟨rfl, hb5⟩
    replace H := Lib.hid (H.out.below hb5)
    replace Hb := Lib.hid (below_trans' Hb.out hb5)
    clear H3 hb5
    go_wp2_with fail
    go_loopw [6] (fun i wr => ∃ m : Nat, m ≤ us.length ∧ i = .int .i64 m ∧ Hid (Below w5.heap.size w5 wr)) (fun i _ => us.length - (intOf i).toNat)
    case atStart => exact ⟨0, Nat.zero_le _, rfl, Lib.hid (Below.refl _ _)⟩
    case round =>
      obtain ⟨m, hm, rfl, Hb6⟩ := hrel
      by_cases hlt : m < us.length
      · obtain ⟨ad, p, x, rfl, hx, hcA, hpx⟩ := (H.out.below Hb6.out).at_ hlt
        have Hx := Lib.hid hx
        have Hti := Lib.hid (tray_iff (id := id) Hyes.out hx)
        have hf := soPlace_any p x id wr hpx (Hs.out x (List.mem_of_getElem? hx))
        have Hf := Lib.hid hf
        obtain ⟨PA, pc, rfl, _, _, _⟩ := hpx
        clear hx hf
        go_wp2_with fail
        refine Hf.out.mono ?_
        rintro e w7 ⟨rfl, hb7⟩
        replace Hb6 := Lib.hid (below_trans' Hb6.out hb7)
        clear hb7 Hf
        by_cases hfi : 0 ≤ findI x id
        · have hmk : (m : Int) = k := (Hti.out.1 hfi).trans Hk.out.symm
          have t3 : ((m : Int) == k) = true := by simp [hmk]
          have t4 : decide (0 ≤ findI x id) = true := decide_eq_true hfi
          clear hmk
          generalize findI x id = fx at *
          go_wp2_with fail
          go_roundw
          case rel => exact ⟨m + 1, by omega, by go_num, Hb6⟩
          case measure => simp [intOf]; omega
        · have hmk : ¬ (m : Int) = k := fun e => hfi (Hti.out.2 (e.trans Hk.out))
          have t3 : ((m : Int) == k) = false := by simp [hmk]
          have t4 : decide (0 ≤ findI x id) = false := decide_eq_false hfi
          clear hmk
          generalize findI x id = fx at *
          go_wp2_with fail
          go_roundw
          case rel => exact ⟨m + 1, by omega, by go_num, Hb6⟩
          case measure => simp [intOf]; omega
      · have hm' : m = us.length := by omega
        subst hm'
        have H8 := Lib.hid (impl_empty _ xss wr (H.out.below Hb6.out) Hs.out)
        rw [Hyes.out] at H8
        go_wp2_with fail
        refine H8.out.mono ?_
        rintro e w8 ⟨u, rfl, ho, hb8⟩
        have He := Lib.hid (emp_yes Hyes.out)
        have hfl := soPlace_any u (emp xss) id w8 ho.sl (by rw [He.out]; exact szs_flat Hs.out)
        have hany := tray_any (id := id) Hyes.out
        rw [← He.out, ← Hk.out] at hany
        have Hfl := Lib.hid hfl
        have Hany := Lib.hid hany
        replace Hb6 := Lib.hid (below_trans' Hb6.out hb8)
        clear hfl hany ho hb8 H8
        by_cases hk0 : 0 ≤ k
        · have hf0 := Hany.out.1 hk0
          have t5 : decide (0 ≤ k) = true := decide_eq_true hk0
          go_wp2_with fail
          refine Hfl.out.mono ?_
          rintro e w9 ⟨rfl, hb9⟩
          have t6 : decide (0 ≤ findI (emp xss) id) = true := decide_eq_true hf0
          generalize findI (emp xss) id = fx at *
          go_wp2_with fail
          go_ret
          exact ⟨rfl, below_trans' Hb.out (below_trans' Hb6.out hb9)⟩
        · have hf0 : ¬ 0 ≤ findI (emp xss) id := fun e => hk0 (Hany.out.2 e)
          have t5 : decide (0 ≤ k) = false := decide_eq_false (by omega)
          go_wp2_with fail
          refine Hfl.out.mono ?_
          rintro e w9 ⟨rfl, hb9⟩
          have t6 : decide (0 ≤ findI (emp xss) id) = false := decide_eq_false (by omega)
          generalize findI (emp xss) id = fx at *
          go_wp2_with fail
          go_ret
          exact ⟨rfl, below_trans' Hb.out (below_trans' Hb6.out hb9)⟩

end Go.Proofs.Ytjekhmkkkmphmaa
