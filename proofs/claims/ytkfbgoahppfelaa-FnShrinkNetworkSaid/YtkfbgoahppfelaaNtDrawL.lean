
/- The walks of what draws the arguments of the laws on rules. -/
import Derived.Test.YtkfbgoahppfelaaNtDrawR
import Derived.Test.YtkfbgoahppfelaaNtDrawB
import Derived.Test.YtkfbgoahppfelaaNt7
import Derived.Deep.RegionWith
namespace Go.Proofs.Ytkfbgoahppfelaa
open Go.RowKit
set_option linter.unusedVariables false

def names3 : List ByteArray := [⟨#[97]⟩, ⟨#[98]⟩, ⟨#[104, 101, 114, 101]⟩]
theorem rules_lit (R p K : Nat) (w : World) (h : Reader w R p) (hp : p ≤ 274877906944) (hK : K = w.heap.size) :
    Calls Try.prog 44 #[.pointer (some ⟨R, 0, none⟩), .slice (some ⟨K, 0, none⟩) 3 3] (w.alloc (.cells #[.string ⟨#[97]⟩, .string ⟨#[98]⟩, .string ⟨#[104, 101, 114, 101]⟩] 9)) fun e w' => ∃ (v : Value) (xs : List Rul) (q : Nat), e = .returned v ∧ w'.ownsRow w.heap.size 31 2 v xs.length (rcs xs) ∧ xs.length ≤ 5 ∧ SmT 100 xs ∧ q ≤ p + 26 ∧ Dst w R q w' := by
  subst hK
  have hl := h.lt
  have hb : Below w.heap.size w (w.alloc (.cells #[.string ⟨#[97]⟩, .string ⟨#[98]⟩, .string ⟨#[104, 101, 114, 101]⟩] 9)) := (Below.refl _ _).alloc (Nat.le_refl _) _
  refine (rules_any R p (some ⟨w.heap.size, 0, none⟩) 3 names3 _ (h.below hb) hp (rd_lit w _ _) (by simp [names3]) (by simp [names3]) (by intro s hs; simp [names3] at hs; rcases hs with rfl | rfl | rfl <;> decide) (by rintro ad e; injection e with e; subst e; show w.heap.size ≠ R; omega)).mono ?_
  rintro e w' ⟨v, xs, q, rfl, ho, hx, hs, hq, hd⟩
  exact ⟨v, xs, q, rfl, own_base ho (by rw [World.size_alloc]; omega), hx, fun x hm => ⟨by have := (hs x hm).1; omega, by have := (hs x hm).2; omega⟩, hq, ((Dst.start h).alloc _).step hd.grown hd.reader⟩

/-- Rules that are drawn: a row of the call's own from B on. -/
structure Drawn (w : World) (B : Nat) (v : Value) (xs : List Rul) : Prop where
  own : w.ownsRow B 31 2 v xs.length (rcs xs)
  len : xs.length ≤ 21
  sm : SmT 100 xs
theorem Drawn.rt {w : World} {B : Nat} {v : Value} {xs : List Rul} (h : Drawn w B v xs) : Rt w v xs := sl_own h.own
theorem Drawn.szr {w : World} {B : Nat} {v : Value} {xs : List Rul} (h : Drawn w B v xs) : Szr xs := h.sm.szr (by omega)
theorem Drawn.below {w w' : World} {B : Nat} {v : Value} {xs : List Rul} (h : Drawn w B v xs) (hb : Below w.heap.size w w') : Drawn w' B v xs := ⟨own_below h.own hb, h.len, h.sm⟩
theorem Drawn.base {w : World} {B B' : Nat} {v : Value} {xs : List Rul} (h : Drawn w B v xs) (hb : B' ≤ B) : Drawn w B' v xs := ⟨own_base h.own hb, h.len, h.sm⟩
theorem Drawn.past {w w' : World} {B R : Nat} {v : Value} {xs : List Rul} (h : Drawn w B v xs) (hR : R < B) (hg : w.grownBy w' (some R)) : Drawn w' B v xs := ⟨own_past h.own hR hg, h.len, h.sm⟩

set_option maxRecDepth 100000 in
set_option maxHeartbeats 1600000 in
theorem draw_rv (A : Option Addr) (c : Nat) (bs : List Int) (w : World) (h : Coded w A bs c) :
    Calls Try.prog 59 #[.slice A bs.length c] w fun e w' => ∃ (v : Value) (xs : List Rul), e = .returned v ∧ Drawn w' w.heap.size v xs ∧ Below w.heap.size w w' := by
  have HC := Lib.hid (coded_open h)
  clear h
  go_enter Try.func59, Try.ntmps59
  go_wp2_with fail
  refine HC.out.mono ?_
  rintro e w1 ⟨rfl, hr, hb, hl⟩
  have Hd1 := Lib.hid (Dst.start hr)
  have Hb := Lib.hid hb
  have Hl := Lib.hid hl
  have H1 := Lib.hid (rules_lit w.heap.size 0 w1.heap.size w1 hr (by omega) rfl)
  clear hr hb hl HC
  go_wp2_with fail
  refine H1.out.mono ?_
  rintro e w2 ⟨v, xs, q, rfl, ho, hxl, hx, hq, hd2⟩
  have Hd2 := Lib.hid hd2
  have Ho := Lib.hid ho
  have hb2 := bad6_any w.heap.size q w1.heap.size v xs w2 hd2.reader Hl.out hd2.size ho (by omega) hx (by omega)
  have Hb2 := Lib.hid hb2
  clear hb2 ho hx hd2 H1 hxl
  go_wp2_with fail
  refine Hb2.out.mono ?_
  rintro e w3 ⟨u, ys, q3, rfl, ho3, hyl, hys, hq3, hr3, hc3⟩
  have hd3 := hc3.dst Hd2.out (fun g e => (Ho.out.lt g e).1) hr3
  go_wp2_with fail
  go_ret
  exact ⟨_, ys, rfl, ⟨own_base ho3 (Nat.le_of_lt Hl.out), hyl, hys⟩, dst_below Hb.out Hl.out hd3⟩

set_option maxRecDepth 100000 in
set_option maxHeartbeats 1600000 in
theorem draw_look (A : Option Addr) (c : Nat) (bs : List Int) (w : World) (h : Coded w A bs c) :
    Calls Try.prog 12 #[.slice A bs.length c] w fun e w' => ∃ (v : Value) (xs : List Rul) (s : ByteArray), e = .returned (.tuple #[v, .string s]) ∧ Drawn w' w.heap.size v xs ∧ s.size ≤ 101 ∧ Below w.heap.size w w' := by
  have HC := Lib.hid (coded_open h)
  clear h
  go_enter Try.func12, Try.ntmps12
  go_wp2_with fail
  refine HC.out.mono ?_
  rintro e w1 ⟨rfl, hr, hb, hl⟩
  have Hd1 := Lib.hid (Dst.start hr)
  have Hb := Lib.hid hb
  have Hl := Lib.hid hl
  have H1 := Lib.hid (rules_lit w.heap.size 0 w1.heap.size w1 hr (by omega) rfl)
  clear hr hb hl HC
  go_wp2_with fail
  refine H1.out.mono ?_
  rintro e w2 ⟨v, xs, q, rfl, ho, hxl, hx, hq, hd2⟩
  have Hd2 := Lib.hid hd2
  have Ho := Lib.hid ho
  have hb2 := bad6_any w.heap.size q w1.heap.size v xs w2 hd2.reader Hl.out hd2.size ho (by omega) hx (by omega)
  have Hb2 := Lib.hid hb2
  clear hb2 ho hx hd2 H1 hxl
  go_wp2_with fail
  refine Hb2.out.mono ?_
  rintro e w3 ⟨u, ys, q3, rfl, ho3, hyl, hys, hq3, hr3, hc3⟩
  have Hd3 := Lib.hid (hc3.dst Hd2.out (fun g e => (Ho.out.lt g e).1) hr3)
  have HD : Hid (Drawn w3 w1.heap.size u ys) := Lib.hid ⟨ho3, hyl, hys⟩
  have H4 := Lib.hid (head_any w.heap.size q3 w3 hr3 (by omega))
  clear ho3 hyl hys hr3 hc3 Hd2 Ho Hb2 Hd1
  go_wp2_with fail
  refine H4.out.mono ?_
  rintro e w4 ⟨s, rfl, hs, hd4⟩
  have Hd4 := Lib.hid (Hd3.out.step hd4.grown hd4.reader)
  have HD4 := Lib.hid (HD.out.past Hl.out hd4.grown)
  have H5 := Lib.hid (badcode_any w.heap.size (q3 + 3) s w4 hd4.reader (by omega) (by omega) (by omega))
  clear hd4 H4 HD Hd3
  go_wp2_with fail
  refine H5.out.mono ?_
  rintro e w5 ⟨t, rfl, ht, hd5⟩
  have Hd5 := Lib.hid (Hd4.out.step hd5.grown hd5.reader)
  have HD5 := Lib.hid (HD4.out.past Hl.out hd5.grown)
  clear hd5 H5 HD4 Hd4
  go_wp2_with fail
  go_ret2
  exact ⟨_, ys, t, rfl, HD5.out.base (Nat.le_of_lt Hl.out), ht, dst_below Hb.out Hl.out Hd5.out⟩

set_option maxRecDepth 100000 in
set_option maxHeartbeats 1600000 in
theorem draw_shrink (A : Option Addr) (c : Nat) (bs : List Int) (w : World) (h : Coded w A bs c) :
    Calls Try.prog 24 #[.slice A bs.length c] w fun e w' => ∃ (v : Value) (xs : List Rul), e = .returned v ∧ Drawn w' w.heap.size v xs ∧ Below w.heap.size w w' := by
  have HC := Lib.hid (draw_rv A c bs w h)
  clear h
  go_enter Try.func24, Try.ntmps24
  go_wp2_with fail
  refine HC.out.mono ?_
  rintro e w1 ⟨v, xs, rfl, hd, hb⟩
  go_wp2_with fail
  go_ret
  exact ⟨_, xs, rfl, hd, hb⟩

theorem in5 {x a b c d e : Int} {m : Nat} (h : x ∈ [a, b, c, d, e]) (ha : 0 ≤ a ∧ a ≤ m) (hb : 0 ≤ b ∧ b ≤ m) (hc : 0 ≤ c ∧ c ≤ m) (hd : 0 ≤ d ∧ d ≤ m) (he : 0 ≤ e ∧ e ≤ m) : ∃ n : Nat, x = (n : Int) ∧ n ≤ m := by
  simp at h
  refine ⟨x.toNat, ?_, ?_⟩ <;> rcases h with h | h | h | h | h <;> omega

set_option maxRecDepth 100000 in
set_option maxHeartbeats 1600000 in
theorem draw_add (A : Option Addr) (c : Nat) (bs : List Int) (w : World) (h : Coded w A bs c) :
    Calls Try.prog 17 #[.slice A bs.length c] w fun e w' => ∃ (v : Value) (xs : List Rul) (s t : ByteArray), e = .returned (.tuple #[v, .string s, .string t]) ∧ Drawn w' w.heap.size v xs ∧ s.size ≤ 101 ∧ t.size ≤ 101 ∧ Below w.heap.size w w' := by
  have HC := Lib.hid (coded_open h)
  have Hc := Lib.hid h
  clear h
  go_enter Try.func17, Try.ntmps17
  go_wp2_with fail
  refine HC.out.mono ?_
  rintro e w1 ⟨rfl, hr, hb, hl⟩
  have Hd1 := Lib.hid (Dst.start hr)
  have Hb := Lib.hid hb
  have Hl := Lib.hid hl
  have H1 := Lib.hid (draw_look A c bs w1 (Hc.out.below hb))
  clear hr hb hl HC
  go_wp2_with fail
  refine H1.out.mono ?_
  rintro e w2 ⟨v, xs, s, rfl, hD, hs, hb2⟩
  have Hd2 := Lib.hid (Hd1.out.below hb2)
  have HD := Lib.hid hD
  have H2 := Lib.hid (num_lit w.heap.size 0 w2.heap.size 5 #[.int .i64 4, .int .i64 5, .int .i64 6, .int .i64 7, .int .i64 0] [4, 5, 6, 7, 0] w2 Hd2.out.reader (by omega) rfl rfl rfl (by simp) (by simp))
  clear hD hb2 H1 Hd1
  go_wp2_with fail
  refine H2.out.mono ?_
  rintro e w3 ⟨x, rfl, hx, hr3, hg3⟩
  obtain ⟨n, rfl, hn⟩ := in5 (m := 7) hx (by omega) (by omega) (by omega) (by omega) (by omega)
  have Hd3 := Lib.hid (Hd2.out.step hg3 hr3)
  have HD3 := Lib.hid (HD.out.past Hl.out hg3)
  have H4 := Lib.hid (of_lit w.heap.size (0 + 1) w3.heap.size 6 #[.string ⟨#[97]⟩, .string ⟨#[98]⟩, .string ⟨#[104, 101, 114, 101]⟩, .string ⟨#[110, 101, 119]⟩, .string ⟨#[]⟩, .string ⟨#[66]⟩] [⟨#[97]⟩, ⟨#[98]⟩, ⟨#[104, 101, 114, 101]⟩, ⟨#[110, 101, 119]⟩, ⟨#[]⟩, ⟨#[66]⟩] w3 hr3 (by omega) rfl rfl rfl (by simp) (by simp))
  have m0 : (0 : Int) ≤ min (s.size : Int) (n : Int) := by omega
  have m1 : min (s.size : Int) (n : Int) ≤ (s.size : Int) := by omega
  clear hx hr3 hg3 H2 Hd2 HD
  go_wp2_with fail
  all_goals
    refine H4.out.mono ?_
    rintro e w4 ⟨t, rfl, ht, hr4, hg4⟩
    have Hd4 := Lib.hid (Hd3.out.step hg4 hr4)
    have HD4 := Lib.hid (HD3.out.past Hl.out hg4)
    have Ht : Hid (t.size ≤ 101) := Lib.hid (by
      simp at ht
      rcases ht with rfl | rfl | rfl | rfl | rfl | rfl
      · show (1 : Nat) ≤ 101; omega
      · show (1 : Nat) ≤ 101; omega
      · show (4 : Nat) ≤ 101; omega
      · show (3 : Nat) ≤ 101; omega
      · show (0 : Nat) ≤ 101; omega
      · show (1 : Nat) ≤ 101; omega)
    clear ht hr4 hg4 H4 Hd3 HD3
    go_wp2_with fail
    go_ret3
    exact ⟨_, xs, _, t, rfl, HD4.out.base (Nat.le_of_lt Hl.out), by first | omega | (rw [ByteArray.size_extract]; omega), Ht.out, dst_below Hb.out Hl.out Hd4.out⟩

set_option maxRecDepth 100000 in
set_option maxHeartbeats 1600000 in
theorem draw_remove (A : Option Addr) (c : Nat) (bs : List Int) (w : World) (h : Coded w A bs c) :
    Calls Try.prog 28 #[.slice A bs.length c] w fun e w' => ∃ (v : Value) (xs : List Rul) (s : ByteArray), e = .returned (.tuple #[v, .string s]) ∧ Drawn w' w.heap.size v xs ∧ s.size ≤ 101 ∧ Below w.heap.size w w' := by
  have HC := Lib.hid (coded_open h)
  have Hc := Lib.hid h
  clear h
  go_enter Try.func28, Try.ntmps28
  go_wp2_with fail
  refine HC.out.mono ?_
  rintro e w1 ⟨rfl, hr, hb, hl⟩
  have Hd1 := Lib.hid (Dst.start hr)
  have Hb := Lib.hid hb
  have Hl := Lib.hid hl
  have H1 := Lib.hid (draw_add A c bs w1 (Hc.out.below hb))
  clear hr hb hl HC
  go_wp2_with fail
  refine H1.out.mono ?_
  rintro e w2 ⟨v, xs, s, t, rfl, hD, hs, ht, hb2⟩
  have Hd2 := Lib.hid (Hd1.out.below hb2)
  have HD := Lib.hid hD
  obtain ⟨C, cp, rfl, _, _, _, _⟩ := own_form hD.own
  clear hD hb2 H1 Hd1
  by_cases hn : xs.length = 0
  · obtain rfl : xs = [] := List.eq_nil_of_length_eq_zero hn
    have e0 : ¬ (0 : Int) < (([] : List Rul).length : Int) := by simp
    go_wp2_with fail
    go_ret2
    exact ⟨_, [], s, rfl, HD.out.base (Nat.le_of_lt Hl.out), hs, dst_below Hb.out Hl.out Hd2.out⟩
  · have e0 : (0 : Int) < (xs.length : Int) := by omega
    have H3 := Lib.hid (pick_any w.heap.size 0 2 w2 Hd2.out.reader (by omega) (by omega))
    go_wp2_with fail
    refine H3.out.mono ?_
    rintro e w3 ⟨a, rfl, ha, hr3, hg3⟩
    obtain ⟨m, rfl, hm⟩ := nat_of (ha.pos (by omega))
    have Hd3 := Lib.hid (Hd2.out.step hg3 hr3)
    have HD3 := Lib.hid (HD.out.past Hl.out hg3)
    have hxl := HD.out.len
    clear ha hr3 hg3 H3 Hd2 HD
    by_cases h0 : m = 0
    · subst h0
      go_wp2_with fail
      go_region_with (go_at_call 63; refine (pick_any w.heap.size (0 + 1) xs.length _ (Hd3.out.below ?_).reader (by omega) (by omega)).mono ?_; (first | exact Below.refl _ _ | exact (Below.refl _ _).drew | exact (Below.refl _ _).drew.drew); rintro e w4 ⟨b, rfl, hb, hr4, hg4⟩; obtain ⟨k, rfl, hk⟩ := nat_of (hb.pos (by omega)); repeat (with_reducible replace hg4 := undrew hg4); have Hd4 := Lib.hid (Hd3.out.step hg4 hr4); have HD4 := Lib.hid (HD3.out.past Hl.out hg4); have hkl : k < xs.length := (by omega); obtain ⟨g, rfl⟩ := own_some' HD4.out.own (by omega); have hxk := List.getElem?_eq_getElem hkl; generalize xs[k] = x at hxk; have hc4 : w4.cell? ⟨g, k * 2, none⟩ = some (.string x.1) := (HD4.out.own.cellAt _ (by omega)).trans (cs2_get (f := rtf) hxk).1; have hxs := (HD4.out.sm x (List.mem_of_getElem? hxk)).1; clear hxk hb hr4 hg4)
      all_goals
        go_wp2_with fail
        go_ret2
        exact ⟨_, xs, _, rfl, HD4.out.base (Nat.le_of_lt Hl.out), by omega, dst_below Hb.out Hl.out Hd4.out⟩
    · have e1 : ((m : Int) == 0) = false := by simp only [beq_eq_false_iff_ne]; omega
      go_wp2_with fail
      go_ret2
      exact ⟨_, xs, s, rfl, HD3.out.base (Nat.le_of_lt Hl.out), hs, dst_below Hb.out Hl.out Hd3.out⟩

theorem shrink_drawn {m : Nat} {xs : List Rul} (h : SmT m xs) : SmT m (shrink xs) ∧ (shrink xs).length ≤ xs.length := by
  cases hv : rv xs with
  | false => rw [shrink_no hv]; exact ⟨fun x hx => by simp at hx, by simp⟩
  | true => exact ⟨fun x hx => h x ((shrink_sub hv).subset hx), (shrink_sub hv).length_le⟩

set_option maxRecDepth 100000 in
set_option maxHeartbeats 1600000 in
theorem draw_same (A : Option Addr) (c : Nat) (bs : List Int) (w : World) (h : Coded w A bs c) :
    Calls Try.prog 31 #[.slice A bs.length c] w fun e w' => ∃ (v u : Value) (xs ys : List Rul), e = .returned (.tuple #[v, u]) ∧ Drawn w' w.heap.size v xs ∧ Drawn w' w.heap.size u ys ∧ Below w.heap.size w w' := by
  have HC := Lib.hid (coded_open h)
  have Hc := Lib.hid h
  clear h
  go_enter Try.func31, Try.ntmps31
  go_wp2_with fail
  refine HC.out.mono ?_
  rintro e w1 ⟨rfl, hr, hb, hl⟩
  have Hd1 := Lib.hid (Dst.start hr)
  have Hb := Lib.hid hb
  have Hl := Lib.hid hl
  have H1 := Lib.hid (draw_rv A c bs w1 (Hc.out.below hb))
  clear hr hb hl HC
  go_wp2_with fail
  refine H1.out.mono ?_
  rintro e w2 ⟨v, xs, rfl, hD, hb2⟩
  have Hd2 := Lib.hid (Hd1.out.below hb2)
  have HD := Lib.hid hD
  have H2 := Lib.hid (spec_shrink v xs w2 hD.rt hD.szr)
  clear hD hb2 H1 Hd1
  go_wp2_with fail
  refine H2.out.mono ?_
  rintro e w3 ⟨u, rfl, hu, hb3⟩
  have Hd3 := Lib.hid (Hd2.out.below hb3)
  have HD3 := Lib.hid (HD.out.below hb3)
  have hsd := shrink_drawn HD.out.sm
  have HU3 : Hid (Drawn w3 w2.heap.size u (shrink xs)) := Lib.hid ⟨hu.row, by have := HD.out.len; omega, hsd.1⟩
  have Hvl : Hid (∀ g, v.ownBlock = some g → g < w2.heap.size) := Lib.hid fun g e => (HD.out.own.lt g e).2
  have Hw1 : Hid (w1.heap.size ≤ w2.heap.size) := Lib.hid Hd2.out.size
  have Hw : Hid (w.heap.size < w2.heap.size) := Lib.hid (Nat.lt_of_lt_of_le Hl.out Hd2.out.size)
  have H3 := Lib.hid (pick_any w.heap.size 0 4 w3 Hd3.out.reader (by omega) (by omega))
  have hlen := HU3.out.len
  generalize shrink xs = ys at *
  clear hu hb3 H2 Hd2 HD hsd
  go_wp2_with fail
  refine H3.out.mono ?_
  rintro e w4 ⟨a, rfl, ha, hr4, hg4⟩
  obtain ⟨m, rfl, hm⟩ := nat_of (ha.pos (by omega))
  have Hd4 := Lib.hid (Hd3.out.step hg4 hr4)
  have HD4 := Lib.hid (HD3.out.past Hl.out hg4)
  have HU4 := Lib.hid (HU3.out.past Hw.out hg4)
  clear ha hg4 H3 Hd3 HD3 HU3
  by_cases h0 : m = 0
  · subst h0
    have H5 := Lib.hid (rules_lit w.heap.size (0 + 1) w4.heap.size w4 hr4 (by omega) rfl)
    clear hr4
    go_wp2_with fail
    refine H5.out.mono ?_
    rintro e w5 ⟨z, zs, q, rfl, ho, hzl, hzs, hq, hd5⟩
    have HD5 := Lib.hid (HD4.out.past Hl.out hd5.grown)
    have Hd5 := Lib.hid (Hd4.out.step hd5.grown hd5.reader)
    have HZ : Hid (Drawn w5 w.heap.size z zs) := Lib.hid ⟨own_base ho (by have := Hd4.out.size; have := Hl.out; omega), by omega, hzs⟩
    clear ho hzs hd5 H5
    go_wp2_with fail
    go_ret2
    exact ⟨_, _, xs, zs, rfl, HD5.out.base (Nat.le_of_lt Hl.out), HZ.out, dst_below Hb.out Hl.out Hd5.out⟩
  have e0 : ((m : Int) == 0) = false := by simp only [beq_eq_false_iff_ne]; omega
  by_cases h1 : m = 1
  · subst h1
    obtain ⟨C, cp, rfl, _, _, _, _⟩ := own_form HU4.out.own
    by_cases hn : ys.length = 0
    · obtain rfl : ys = [] := List.eq_nil_of_length_eq_zero hn
      have e1 : ¬ (0 : Int) < (([] : List Rul).length : Int) := by simp
      go_wp2_with fail
      go_ret2
      exact ⟨_, _, xs, [], rfl, HD4.out.base (Nat.le_of_lt Hl.out), HU4.out.base (Nat.le_of_lt Hw.out), dst_below Hb.out Hl.out Hd4.out⟩
    · have e1 : (0 : Int) < (ys.length : Int) := by omega
      have H5 := Lib.hid (pick_any w.heap.size (0 + 1) ys.length w4 hr4 (by omega) (by omega))
      clear hr4
      go_wp2_with fail
      refine H5.out.mono ?_
      rintro e w5 ⟨a, rfl, ha, hr5, hg5⟩
      obtain ⟨k, rfl, hk⟩ := nat_of (ha.pos (by omega))
      have Hd5 := Lib.hid (Hd4.out.step hg5 hr5)
      have HD5 := Lib.hid (HD4.out.past Hl.out hg5)
      have HU5 := Lib.hid (HU4.out.past Hw.out hg5)
      have hkl : k < ys.length := by omega
      obtain ⟨x, hxk⟩ : ∃ x, ys[k]? = some x := ⟨_, List.getElem?_eq_getElem hkl⟩
      obtain ⟨g, rfl⟩ := own_some' HU5.out.own (by omega)
      have hcB : w5.cell? ⟨g, k * 2 + 1, none⟩ = some (.string x.2) := (HU5.out.own.cellAt _ (by omega)).trans (cs2_get (f := rtf) hxk).2
      have hfz : w5.frozen? ⟨g, k * 2 + 1, none⟩ = false := HU5.out.own.frozenAt _
      have hst := HU5.out.own.stored (k * 2 + 1) (.string ⟨#[98]⟩)
      rw [rcs_set2 hxk] at hst
      have Hst := Lib.hid hst
      have hxs := HU5.out.sm x (List.mem_of_getElem? hxk)
      have HX : Hid (x.1.size ≤ 100) := Lib.hid hxs.1
      have Hgl : Hid (w2.heap.size ≤ g) := Lib.hid (HU5.out.own.lt g rfl).1
      clear hst ha hr5 hg5 H5 hxk hxs HU4 HD4 Hd4
      go_wp2_with fail
      go_ret2
      have hg := Hst.out.2
      have hgr : w5.grownBy (w5.setCell ⟨g, k * 2 + 1, none⟩ (.string ⟨#[98]⟩)) (some g) := by simpa [Value.ownBlock] using hg
      have hD6 : Drawn (w5.setCell ⟨g, k * 2 + 1, none⟩ (.string ⟨#[98]⟩)) w1.heap.size v xs := ⟨HD5.out.own.kept hgr (by
        cases hv : v.ownBlock with
        | none => exact .inl rfl
        | some g' => right; intro e; injection e with e; have := Hvl.out g' hv; have := Hgl.out; omega), HD5.out.len, HD5.out.sm⟩
      have hd6 := Hd5.out.own Hl.out hgr (fun g' e => by injection e with e; have := Hgl.out; have := Hw1.out; omega)
      refine ⟨_, _, xs, ys.set k (x.1, ⟨#[98]⟩), rfl, hD6.base (Nat.le_of_lt Hl.out), ⟨by rw [List.length_set]; exact own_base Hst.out.1 (Nat.le_of_lt Hw.out), by rw [List.length_set]; omega, HU5.out.sm.set ⟨HX.out, by show (1 : Nat) ≤ 100; omega⟩⟩, dst_below Hb.out Hl.out hd6⟩
  have e1 : ((m : Int) == 1) = false := by simp only [beq_eq_false_iff_ne]; omega
  go_wp2_with fail
  go_ret2
  exact ⟨_, _, xs, ys, rfl, HD4.out.base (Nat.le_of_lt Hl.out), HU4.out.base (Nat.le_of_lt Hw.out), dst_below Hb.out Hl.out Hd4.out⟩


end Go.Proofs.Ytkfbgoahppfelaa
