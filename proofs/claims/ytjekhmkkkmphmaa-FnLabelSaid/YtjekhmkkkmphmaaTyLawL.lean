/- The walk of the law on labels. -/
import Derived.Test.YtjekhmkkkmphmaaTyLawB
import Derived.Deep.RegionWith
import Derived.Deep.RegionHeld3
namespace Go.Proofs.Ytjekhmkkkmphmaa
open Go.RowKit
set_option linter.unusedVariables false

set_option maxRecDepth 100000 in
set_option maxHeartbeats 1600000 in
theorem law_FnLabel (A : Option Addr) (c : Nat) (bs : List Int) (w : World) (h0 : Coded0 w A bs c) :
    Calls Try.prog 5 #[.slice A bs.length c] w fun e w' => e = .returned (.bool true) ∧ Below w.heap.size w w' := by
  by_cases hbig : 1048576 < bs.length
  · go_enter Try.func5, Try.ntmps5
    go_wp2_with fail
    go_ret
    exact ⟨rfl, Below.refl _ _⟩
  have Hdr := Lib.hid (draw_label A c bs w (h0.coded hbig))
  clear h0
  go_enter Try.func5, Try.ntmps5
  go_wp2_with fail
  refine Hdr.out.mono ?_
  rintro e w1 ⟨v, xs, rfl, h, hl, hs, hb⟩
  obtain ⟨L, hL⟩ : ∃ L, L = label xs := ⟨_, rfl⟩
  have H1 := Lib.hid (impl_label v xs w1 h hs)
  rw [← hL] at H1
  have HL := Lib.hid hL
  have Hs := Lib.hid hs
  have Hb := Lib.hid hb
  have H := Lib.hid h
  have t1 : (L.toList == L.toList) = true := str_same rfl
  clear hs hb h hL Hdr
  go_wp2_with fail
  refine H1.out.mono ?_
  rintro e w2 ⟨rfl, hb2⟩
  replace H := Lib.hid (H.out.below hb2)
  replace Hb := Lib.hid (below_trans' Hb.out hb2)
  have H2 := Lib.hid (spec_label v xs w2 H.out Hs.out)
  rw [← HL.out] at H2
  clear H1 hb2
  go_wp2_with fail
  refine H2.out.mono ?_
  rintro e w3 ⟨rfl, hb3⟩
  replace H := Lib.hid (H.out.below hb3)
  replace Hb := Lib.hid (below_trans' Hb.out hb3)
  have H3 := Lib.hid (impl_bv v xs w3 H.out Hs.out)
  clear H2 hb3
  go_wp2_with fail
  refine H3.out.mono ?_
  rintro e w4 ⟨rfl, hb4⟩
  replace H := Lib.hid (H.out.below hb4)
  replace Hb := Lib.hid (below_trans' Hb.out hb4)
  clear H3 hb4
  cases hcv : bv xs with
  | false =>
    have hL : L = ⟨#[]⟩ := HL.out.trans (label_no hcv)
    subst hL
    go_wp2_with fail
    go_ret
    exact ⟨rfl, Hb.out⟩
  | true =>
    have Hcv := Lib.hid hcv
    have h := H.out
    obtain ⟨D, d, rfl, hD, hd1, hd2⟩ := h
    unfold maxLen at hd2
    by_cases h0 : xs.length = 0
    · have hx : xs = [] := List.eq_nil_of_length_eq_zero h0
      have hL : L = ⟨#[]⟩ := HL.out.trans (by rw [hx, label_nil])
      have e0 : ((xs.length : Int) == 0) = true := by simp [h0]
      clear h0 hx
      subst hL
      go_wp2_with fail
      go_ret
      exact ⟨rfl, Hb.out⟩
    · have e0 : ((xs.length : Int) == 0) = false := by simp only [beq_eq_false_iff_ne]; omega
      obtain ⟨x, y, hx, hy⟩ := ends_at (xs := xs) (by omega)
      obtain ⟨hb1, hb2, _⟩ := bv_parts hcv
      have hx7 := codeB_size (hb2 x (List.mem_of_getElem? hx)).1
      have hy7 := codeB_size (hb2 y (List.mem_of_getElem? hy)).1
      obtain ⟨ad, rfl, hcX, hcY⟩ := label_cells hD (by omega) hx hy
      have t2 : (L.toList == (x.2 ++ (⟨#[45]⟩ : ByteArray) ++ y.2).toList) = true := str_same (HL.out.trans (label_yes hcv hx hy))
      have Hrev := Lib.hid (label_rev hcv hx hy)
      have t3 : ((y.2 ++ (⟨#[45]⟩ : ByteArray) ++ x.2).toList == (y.2 ++ (⟨#[45]⟩ : ByteArray) ++ x.2).toList) = true := str_same rfl
      have z45 : (⟨#[45]⟩ : ByteArray).size = 1 := rfl
      have z1 : (x.2 ++ (⟨#[45]⟩ : ByteArray)).size = 8 := by rw [ByteArray.size_append, z45]; omega
      have z2 : (y.2 ++ (⟨#[45]⟩ : ByteArray)).size = 8 := by rw [ByteArray.size_append, z45]; omega
      have i1 : (((xs.length : Int) - 1).toNat) = xs.length - 1 := by omega
      have hl61 : xs.length ≤ 1000 := by omega
      have Hl61 := Lib.hid hl61
      clear hx hy hb1 hb2 hcv hl61
      obtain ⟨m, hm⟩ : ∃ m, xs.length = m + 1 := ⟨xs.length - 1, by omega⟩
      clear h0
      rw [hm] at hcY H hd1 ⊢
      have H9 : Hid (Lt w4 (.slice (some ad) (m + 1) d) xs) := Lib.hid (by have h9 := H.out; unfold Lt; rw [hm]; exact h9)
      replace H := H9
      clear hm i1 e0 H9
      have e0 : (((m + 1 : Nat) : Int) == 0) = false := by simp only [beq_eq_false_iff_ne]; omega
      have hwr : IntKind.i64.wrap (m : Int) = (m : Int) := by rw [IntKind.wrap_i64]; omega
      have hwr2 : IntKind.i64.wrap ((m : Int) + 1 - 1) = (m : Int) := by rw [IntKind.wrap_i64]; omega
      have hwr3 : IntKind.i64.wrap (((m + 1 : Nat) : Int) - 1) = (m : Int) := by rw [IntKind.wrap_i64]; omega
      have hm0 : (0 : Int) ≤ (m : Int) := by omega
      have hm1 : (m : Int) < (m : Int) + 1 := by omega
      rw [Nat.add_sub_cancel] at hcY
      go_wp2_with fail
      go_region_held3 (fun w' => Below w4.heap.size w4 w' ∧ w'.cell? ⟨ad.block, ad.off + 1, none⟩ = some (.string x.2) ∧ w'.cell? ⟨(ad.add (m * 2)).block, (ad.add (m * 2)).off + 1, none⟩ = some (.string y.2)) (first | (refine ⟨(Below.refl _ _).drew, ?_, ?_⟩ <;> assumption) | (refine ⟨?_, ?_, ?_⟩ <;> assumption) | go_keep) (first | ((go_at_call 28; (refine (turned_any _ xs _ (H.out.below ?_) Hl61.out).mono ?_; (first | exact (Below.refl _ _).drew | exact Below.refl _ _ | assumption); rintro e w5 ⟨u, rfl, ho5, hb5⟩; have Ho5 := Lib.hid ho5; have hcX5 : w5.cell? ⟨ad.block, ad.off + 1, none⟩ = some (.string x.2) := cell_later hb5 (by first | assumption | exact hcX); have hcY5 : w5.cell? ⟨(ad.add (m * 2)).block, (ad.add (m * 2)).off + 1, none⟩ = some (.string y.2) := cell_later hb5 (by first | assumption | exact hcY); have hb5' : Below w4.heap.size w4 w5 := below_trans' (by first | assumption | exact (Below.refl _ _).drew) hb5; have Hb5 := Lib.hid hb5'; clear ho5 hb5))) | ((go_at_call 24; (refine (impl_label _ xs.reverse _ (Ho5.out.sl.below ?_) (fun z hz => Hs.out z (List.mem_reverse.1 hz))).mono ?_; (first | exact Below.refl _ _ | exact (Below.refl _ _).drew | assumption); rintro e w6 ⟨rfl, hb6⟩; rw [Hrev.out]; have hcX6 : w6.cell? ⟨ad.block, ad.off + 1, none⟩ = some (.string x.2) := cell_later hb6 (by first | assumption | exact hcX5); have hcY6 : w6.cell? ⟨(ad.add (m * 2)).block, (ad.add (m * 2)).off + 1, none⟩ = some (.string y.2) := cell_later hb6 (by first | assumption | exact hcY5); have hb6' : Below w4.heap.size w4 w6 := below_trans' (by first | assumption | exact hb5') hb6))))
      all_goals
        go_wp2_with fail
        go_ret
        exact ⟨ret_bool t3, below_trans' Hb.out hb6'⟩

end Go.Proofs.Ytjekhmkkkmphmaa
