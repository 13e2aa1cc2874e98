
/- The walks of what draws rules. -/
import Derived.Test.YtkfbgoahppfelaaDraw2
import Derived.Test.YtkfbgoahppfelaaNt10
import Derived.Test.YtkfbgoahppfelaaNtStrs
import Derived.Deep.RegionWith
namespace Go.Proofs.Ytkfbgoahppfelaa
open Go.RowKit
set_option linter.unusedVariables false



theorem Rd.str {w : World} {A : Option Addr} {xs : List ByteArray} (h : Rd w A (strs xs)) {k : Nat} (hk : k < xs.length) :
    ∃ ad x, A = some ad ∧ xs[k]? = some x ∧ w.cell? (ad.add k) = some (.string x) := by
  obtain ⟨ad, e, hc⟩ := h k _ (strs_get (List.getElem?_eq_getElem hk))
  exact ⟨ad, xs[k], e, List.getElem?_eq_getElem hk, hc⟩
theorem nat_of {x n : Int} (h : 0 ≤ x ∧ x < n) : ∃ m : Nat, x = (m : Int) ∧ (m : Int) < n := ⟨x.toNat, by omega, by omega⟩

set_option maxHeartbeats 800000 in
theorem of_any (R p : Nat) (A : Option Addr) (c : Nat) (xs : List ByteArray) (w : World) (h : Reader w R p) (hp : p ≤ 1099511627776) (hA : Rd w A (strs xs)) (hx0 : 1 ≤ xs.length) (hxl : xs.length ≤ 1000) (hAR : ∀ ad, A = some ad → ad.block ≠ R) :
    Calls Try.prog 56 #[.pointer (some ⟨R, 0, none⟩), .slice A xs.length c] w fun e w' => ∃ x : ByteArray, e = .returned (.string x) ∧ x ∈ xs ∧ Reader w' R (p + 1) ∧ w.grownBy w' (some R) := by
  have h1 := pick_any R p xs.length w h hp (by omega)
  have H1 := Lib.hid h1
  have HA := Lib.hid hA
  have HAR := Lib.hid hAR
  clear h1 hA hAR h
  go_enter Try.func56, Try.ntmps56
  go_wp2_with fail
  refine H1.out.mono ?_
  rintro e w1 ⟨a, rfl, ha, hr1, hg1⟩
  obtain ⟨k, rfl, hk⟩ := nat_of (ha.pos (by omega))
  obtain ⟨ad, x, rfl, hx, hc⟩ := (rd_drawn ⟨HA.out, HAR.out⟩ hg1).str (k := k) (by omega)
  have Hx := Lib.hid (List.mem_of_getElem? hx)
  have Hr := Lib.hid (And.intro hr1 hg1)
  have hkl : (k : Int) < (xs.length : Int) := hk
  clear ha hr1 hg1 H1 hx
  go_wp2_with fail
  go_ret
  exact ⟨x, rfl, Hx.out, Hr.out⟩

theorem of_lit (R p : Nat) (K n : Nat) (cs : Array Value) (xs : List ByteArray) (w : World) (h : Reader w R p) (hp : p ≤ 1099511627776) (hK : K = w.heap.size) (hn : n = xs.length) (hcs : cs.toList = strs xs) (hx0 : 1 ≤ xs.length) (hxl : xs.length ≤ 1000) :
    Calls Try.prog 56 #[.pointer (some ⟨R, 0, none⟩), .slice (some ⟨K, 0, none⟩) n n] (w.alloc (.cells cs 9)) fun e w' => ∃ x : ByteArray, e = .returned (.string x) ∧ x ∈ xs ∧ Reader w' R (p + 1) ∧ w.grownBy w' (some R) := by
  subst hK hn
  have hb : Below w.heap.size w (w.alloc (.cells cs 9)) := (Below.refl _ _).alloc (Nat.le_refl _) _
  have hl := h.lt
  refine (of_any R p (some ⟨w.heap.size, 0, none⟩) xs.length xs _ (h.below hb) hp (by rw [← hcs]; exact rd_lit w cs _) hx0 hxl (by rintro ad e; cases e; simp; omega)).mono ?_
  rintro e w' ⟨x, rfl, hx, hr, hg⟩
  exact ⟨x, rfl, hx, hr, drawn_step (drawn_alloc ((⟨rfl, rfl, rfl, Nat.le_refl _, fun _ _ _ => rfl⟩ : w.grownBy w (some R))) _) hg⟩
theorem own_past {w w' : World} {B R n : Nat} {e : TypeId} {size : Nat} {v : Value} {cs : List Value} (h : w.ownsRow B e size v n cs) (hR : R < B) (hg : w.grownBy w' (some R)) : w'.ownsRow B e size v n cs := by
  refine h.kept hg ?_
  cases hv : v.ownBlock with
  | none => exact .inl rfl
  | some g => right; intro e; injection e with e; have := (h.lt g hv).1; omega
theorem mem3 {x a b c : ByteArray} (h : x ∈ [a, b, c]) {n : Nat} (ha : a.size = n) (hb : b.size = n) (hc : c.size = n) : x.size = n := by
  simp at h
  rcases h with rfl | rfl | rfl <;> assumption

set_option maxRecDepth 100000 in
set_option maxHeartbeats 1600000 in
theorem head_any (R p : Nat) (w : World) (h : Reader w R p) (hp : p ≤ 549755813888) :
    Calls Try.prog 46 #[.pointer (some ⟨R, 0, none⟩)] w fun e w' => ∃ (s : ByteArray), e = .returned (.string s) ∧ s.size = 7 ∧ Dst w R (p + 3) w' := by
  have h1 := of_lit R p w.heap.size 3 #[.string ⟨#[49]⟩, .string ⟨#[48]⟩, .string ⟨#[50]⟩] [⟨#[49]⟩, ⟨#[48]⟩, ⟨#[50]⟩] w h (by omega) rfl rfl rfl (by simp) (by simp)
  have H1 := Lib.hid h1
  have Hd0 := Lib.hid (Dst.start h)
  clear h1 h
  go_enter Try.func46, Try.ntmps46
  go_wp2_with fail
  refine H1.out.mono ?_
  rintro e w1 ⟨s1, rfl, hs1, hr1, hg1⟩
  have hz1 := mem3 (n := 1) hs1 rfl rfl rfl
  have Hd1 := Lib.hid (Hd0.out.step hg1 hr1)
  have H2 := Lib.hid (pick_any R (p + 1) 3 w1 hr1 (by omega) (by omega))
  have z4 : (⟨#[49, 50, 48, 48]⟩ : ByteArray).size = 4 := rfl
  have za : ((⟨#[49, 50, 48, 48]⟩ : ByteArray) ++ s1).size = 5 := by rw [ByteArray.size_append]; omega
  clear hs1 hr1 hg1 H1 Hd0
  go_wp2_with fail
  refine H2.out.mono ?_
  rintro e w2 ⟨a, rfl, ha, hr2, hg2⟩
  obtain ⟨m, rfl, hm⟩ := nat_of (ha.pos (by omega))
  have Hd2 := Lib.hid (Hd1.out.step hg2 hr2)
  have H3 := Lib.hid (dec_any m w2 (by omega))
  have zm : (dgt m).size = 1 := rfl
  have zb : ((⟨#[49, 50, 48, 48]⟩ : ByteArray) ++ s1 ++ dgt m).size = 6 := by rw [ByteArray.size_append]; omega
  clear ha hr2 hg2 H2 Hd1
  go_wp2_with fail
  refine H3.out.mono ?_
  rintro e w3 ⟨rfl, hb3⟩
  have Hd3 := Lib.hid (Hd2.out.below hb3)
  have H4 := Lib.hid (pick_any R (p + 1 + 1) 3 w3 Hd3.out.reader (by omega) (by omega))
  clear hb3 H3 Hd2
  go_wp2_with fail
  refine H4.out.mono ?_
  rintro e w4 ⟨a2, rfl, ha2, hr4, hg4⟩
  obtain ⟨n, rfl, hn⟩ := nat_of (ha2.pos (by omega))
  have Hd4 := Lib.hid (Hd3.out.step hg4 hr4)
  have H5 := Lib.hid (dec_any n w4 (by omega))
  have zn : (dgt n).size = 1 := rfl
  have zc : ((⟨#[49, 50, 48, 48]⟩ : ByteArray) ++ s1 ++ dgt m ++ dgt n).size = 7 := by rw [ByteArray.size_append]; omega
  clear ha2 hr4 hg4 H4 Hd3
  go_wp2_with fail
  refine H5.out.mono ?_
  rintro e w5 ⟨rfl, hb5⟩
  go_wp2_with fail
  go_ret
  exact ⟨_, rfl, zc, Hd4.out.below hb5⟩

end Go.Proofs.Ytkfbgoahppfelaa
