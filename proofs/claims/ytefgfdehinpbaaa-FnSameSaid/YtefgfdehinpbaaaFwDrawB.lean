
/- The walks of what spoils orders, and of the draws of the laws on them. -/
import Derived.Test.YtefgfdehinpbaaaFwDrawA
namespace Go.Proofs.Ytefgfdehinpbaaa
open Go.RowKit
set_option linter.unusedVariables false

set_option maxRecDepth 100000 in
set_option maxHeartbeats 1600000 in
theorem bad4_any (R p B : Nat) (v : Value) (xs : List Fwd) (w : World) (h : Reader w R p) (hR : R < B) (hB : B ≤ w.heap.size) (ho : w.ownsRow B 34 2 v xs.length (fcs xs)) (hl : xs.length ≤ 30) (hx : SmF 99 xs) (hp : p ≤ 274877906944) :
    Calls Try.prog 37 #[.pointer (some ⟨R, 0, none⟩), v] w fun e w' => ∃ (u : Value) (ys : List Fwd) (q : Nat), e = .returned u ∧ w'.ownsRow B 34 2 u ys.length (fcs ys) ∧ ys.length ≤ 31 ∧ SmF 101 ys ∧ q ≤ p + 10 ∧ Reader w' R q ∧ Chg w w' R v.ownBlock ∧ (∀ g, u.ownBlock = some g → some g = v.ownBlock ∨ w.heap.size ≤ g) := by
  obtain ⟨A, c, rfl, hnc, hcm, hA, hA2⟩ := own_form ho
  have Ho := Lib.hid ho
  have Hsz : Hid (SmF 101 xs) := Lib.hid fun x hm => by have := hx x hm; omega
  have H99 := Lib.hid hx
  have Hr := Lib.hid h
  obtain ⟨b, hbb⟩ : ∃ b, b = (Value.slice A xs.length c).ownBlock := ⟨_, rfl⟩
  have Hbb := Lib.hid hbb
  have HC0 : Hid (Chg w w R b) := Lib.hid (Chg.refl _ _ _)
  rw [← hbb]
  clear ho hA hA2 hx hcm hbb
  by_cases hn : xs.length = 0
  · have e0 : ((xs.length : Int) == 0) = true := by simp [hn]
    clear hn h
    go_enter Try.func37, Try.ntmps37
    go_wp2_with fail
    go_ret
    exact ⟨_, xs, p, rfl, Ho.out, by omega, Hsz.out, by omega, Hr.out, HC0.out, fun g e => .inl (e.symm.trans Hbb.out.symm)⟩
  have e0 : ((xs.length : Int) == 0) = false := by simp only [beq_eq_false_iff_ne]; omega
  have H2 := Lib.hid (pick_any R p 40 w h (by omega) (by omega))
  clear h
  go_enter Try.func37, Try.ntmps37
  go_wp2_with fail
  refine H2.out.mono ?_
  rintro e w2 ⟨a2, rfl, ha2, hr2, hg2⟩
  obtain ⟨m, rfl, hm⟩ := nat_of (ha2.pos (by omega))
  have HC2 := Lib.hid (HC0.out.draw hg2)
  have Ho2 := Lib.hid (own_past Ho.out hR hg2)
  have Hr2 := Lib.hid hr2
  clear ha2 hr2 hg2 H2 Ho HC0
  have hkl : 0 < xs.length := by omega
  obtain ⟨x, hxk⟩ : ∃ x, xs[0]? = some x := ⟨_, List.getElem?_eq_getElem hkl⟩
  obtain ⟨g, rfl⟩ := own_some' Ho2.out (by omega)
  have Hxk := Lib.hid hxk
  have hxs := H99.out x (List.mem_of_getElem? hxk)
  have hxs1 := hxs.1
  have hxs2 := hxs.2
  have hbr : ∀ g', (some g : Option Nat) = some g' → some g' = b ∨ w.heap.size ≤ g' := fun g' e => .inl (by rw [Hbb.out, ← e]; rfl)
  have Hbr := Lib.hid hbr
  have H0 : Hid (∀ g', (Value.slice (some ⟨g, 0, none⟩) xs.length c).ownBlock = some g' → some g' = b ∨ w.heap.size ≤ g') := Lib.hid fun g' e => Hbr.out g' e
  have hcA : w2.cell? ⟨g, 0, none⟩ = some (.string x.1) := (Ho2.out.cellAt _ (by omega)).trans (by have := (cs2_get (f := ftf) hxk).1; simpa [ftf] using this)
  have hcB : w2.cell? ⟨g, 1, none⟩ = some (.string x.2) := (Ho2.out.cellAt _ (by omega)).trans (by have := (cs2_get (f := ftf) hxk).2; simpa [ftf] using this)
  clear hbr hxs hxk
  by_cases h0 : m = 0
  · subst h0
    have z49 : (⟨#[49]⟩ : ByteArray).size = 1 := rfl
    have zz : (x.2 ++ (⟨#[49]⟩ : ByteArray)).size = x.2.size + 1 := by rw [ByteArray.size_append, z49]
    have hb1 := badcode_any R (p + 1) (x.2 ++ (⟨#[49]⟩ : ByteArray)) w2 Hr2.out (by omega) (by omega) (by omega)
    have Hb1 := Lib.hid hb1
    clear hb1
    go_wp2_with fail
    refine Hb1.out.mono ?_
    rintro e w3 ⟨s', rfl, hs', hd3⟩
    have HC3 := Lib.hid (HC2.out.draw hd3.grown)
    have ho3 := own_past Ho2.out hR hd3.grown
    have hcB3 : w3.cell? ⟨g, 1, none⟩ = some (.string x.2) := (ho3.cellAt _ (by omega)).trans (by have := (cs2_get (f := ftf) Hxk.out).2; simpa [ftf] using this)
    have hfz3 : w3.frozen? ⟨g, 1, none⟩ = false := ho3.frozenAt _
    have hst := ho3.stored (0 * 2 + 1) (.string s')
    rw [fcs_set2 Hxk.out] at hst
    simp only [Nat.zero_mul, Nat.zero_add] at hst
    have Hst := Lib.hid hst
    have Hr3 := Lib.hid hd3.reader
    clear hst ho3 hd3 Hb1 Ho2 HC2 hcA hcB
    go_wp2_with fail
    go_ret
    refine ⟨_, xs.set 0 (x.1, s'), p + 1 + 1, rfl, by rw [List.length_set]; exact Hst.out.1, by rw [List.length_set]; omega, Hsz.out.set ⟨by show x.1.size ≤ 101; omega, hs'⟩, by omega, ?_, ?_, H0.out⟩
    · have hg := Hst.out.2
      exact Hr3.out.upto (B := B) ⟨hg.os, hg.tape, hg.output, hg.size, fun j hj => hg.block j (by have := HC3.out.size; omega) (fun e => by injection e with e; have := (Hst.out.1.lt g rfl).1; omega)⟩ hR
    · exact HC3.out.row (by simpa [Value.ownBlock] using Hst.out.2) Hbr.out
  have e1 : ((m : Int) == 0) = false := by simp only [beq_eq_false_iff_ne]; omega
  have Hw := Lib.hid (Nat.le_trans hB HC2.out.size)
  by_cases h1 : m = 1
  · subst h1
    have hbl := (newF w2 x).1
    have Ho4 := Lib.hid (own_below Ho2.out hbl)
    have HC4 := Lib.hid (HC2.out.below hbl)
    have Hr4 := Lib.hid (Hr2.out.below hbl)
    have Hnw := Lib.hid (newF w2 x).2
    have Hw4 := Lib.hid (Nat.le_trans hB HC4.out.size)
    clear hbl Ho2 HC2 Hr2
    go_wp2_with (at_builtin; refine wpList_append_rd rfl (.tmp 25) (.tmp 29) 23 rfl fwd_elem (base := B) (.slice (some ⟨g, 0, none⟩) xs.length c) xs.length (fcs xs) rfl Ho4.out (some ⟨w2.heap.size, 0, none⟩) 1 1 (fcs [x]) rfl rfl Hnw.out (fcs_oneCell _) (by unfold maxLen; omega) (by omega) Hw4.out ?_; intro v5 w5 hown5 hg5 hm5)
    have Ho5 : Hid (w5.ownsRow B 34 2 v5 (xs ++ [x]).length (fcs (xs ++ [x]))) := Lib.hid (by rw [List.length_append, show fcs (xs ++ [x]) = fcs xs ++ fcs [x] from cs2_append _ _]; exact hown5)
    have HC5 := Lib.hid (HC4.out.row hg5 H0.out)
    have Hr5 := Lib.hid (Hr4.out.upto (B := B) ⟨hg5.os, hg5.tape, hg5.output, hg5.size, fun j hj => hg5.block j (by have := Hw4.out; omega) (fun e => by have := (Ho4.out.lt j e.symm).1; omega)⟩ hR)
    have Hb5 : Hid (∀ g', v5.ownBlock = some g' → some g' = b ∨ w.heap.size ≤ g') := Lib.hid fun g' e => by
      rcases hm5 with h5 | h5
      · exact H0.out g' (h5 ▸ e)
      · rw [h5] at e; injection e with e; right; rw [← e]; exact HC4.out.size
    have hl5 : (xs ++ [x]).length = xs.length + 1 := by simp
    clear hown5 hg5 hm5 Ho4 HC4 Hnw Hr4
    go_ret
    exact ⟨_, xs ++ [x], p + 1, rfl, Ho5.out, by omega, Hsz.out.snoc ⟨by omega, by omega⟩, by omega, Hr5.out, HC5.out, Hb5.out⟩
  have e2 : ((m : Int) == 1) = false := by simp only [beq_eq_false_iff_ne]; omega
  by_cases h2 : m = 2
  · subst h2
    clear hcA hcB hxs1 hxs2
    go_wp2_with fail
    go_loopw [1] (fun bv wr => ∃ (ys : List Fwd) (u0 : Value), u0 = bv ∧ ys.length ≤ 31 ∧ Hid (wr.ownsRow B 34 2 u0 ys.length (fcs ys)) ∧ Hid (SmF 101 ys) ∧ Hid (Reader wr R (p + 1)) ∧ Hid (Chg w wr R b) ∧ Hid (∀ g', u0.ownBlock = some g' → some g' = b ∨ w.heap.size ≤ g') ∧ (∃ C cp, u0 = .slice C ys.length cp)) (fun bv _ => 31 - slLen bv)
    case atStart => exact ⟨xs, _, rfl, by omega, Ho2, Hsz, Hr2, HC2, H0, _, _, rfl⟩
    case round =>
      obtain ⟨ys, u0, rfl, hyl, Ho, Hs, Hr, HC, Hb, C, cp, rfl⟩ := hrel
      clear Ho2 Hsz Hr2 HC2 H0
      by_cases hlt : ys.length < 31
      · have hlt' : (ys.length : Int) < 31 := by omega
        have hsh := show_any (5000 + ys.length) 7 wr (by omega) (by omega)
        push_cast at hsh
        have Hsh := Lib.hid hsh
        clear hsh
        go_wp2_with fail
        refine Hsh.out.mono ?_
        rintro e w3 ⟨⟨s, rfl, hs3, _⟩, hb3⟩
        have hbl := below_trans' hb3 (newF w3 (s, (⟨#[49, 50, 48, 48, 49, 48, 48]⟩ : ByteArray))).1
        have Ho4 := Lib.hid (own_below Ho.out hbl)
        have HC4 := Lib.hid (HC.out.below hbl)
        have Hr4 := Lib.hid (Hr.out.below hbl)
        have Hnw := Lib.hid (newF w3 (s, (⟨#[49, 50, 48, 48, 49, 48, 48]⟩ : ByteArray))).2
        have Hy : Hid (s.size ≤ 101 ∧ (⟨#[49, 50, 48, 48, 49, 48, 48]⟩ : ByteArray).size ≤ 101) := Lib.hid ⟨by omega, by show (7 : Nat) ≤ 101; omega⟩
        have Hw4 := Lib.hid (Nat.le_trans hB HC4.out.size)
        clear hbl Ho HC Hr hb3 Hsh
        go_wp2_with (at_builtin; refine wpList_append_rd rfl (.tmp 36) (.tmp 42) 23 rfl fwd_elem (base := B) (.slice C ys.length cp) ys.length (fcs ys) rfl Ho4.out (some ⟨w3.heap.size, 0, none⟩) 1 1 (fcs [(s, (⟨#[49, 50, 48, 48, 49, 48, 48]⟩ : ByteArray))]) rfl rfl Hnw.out (fcs_oneCell _) (by unfold maxLen; omega) (by omega) Hw4.out ?_; intro v5 w5 hown5 hg5 hm5)
        have Ho5 : Hid (w5.ownsRow B 34 2 v5 (ys ++ [(s, (⟨#[49, 50, 48, 48, 49, 48, 48]⟩ : ByteArray))]).length (fcs (ys ++ [(s, (⟨#[49, 50, 48, 48, 49, 48, 48]⟩ : ByteArray))]))) := Lib.hid (by rw [List.length_append, show fcs (ys ++ [(s, (⟨#[49, 50, 48, 48, 49, 48, 48]⟩ : ByteArray))]) = fcs ys ++ fcs [(s, (⟨#[49, 50, 48, 48, 49, 48, 48]⟩ : ByteArray))] from cs2_append _ _]; exact hown5)
        have HC5 := Lib.hid (HC4.out.row hg5 Hb.out)
        have Hr5 := Lib.hid (Hr4.out.upto (B := B) ⟨hg5.os, hg5.tape, hg5.output, hg5.size, fun j hj => hg5.block j (by have := Hw4.out; omega) (fun e => by have := (Ho4.out.lt j e.symm).1; omega)⟩ hR)
        have Hb5 : Hid (∀ g', v5.ownBlock = some g' → some g' = b ∨ w.heap.size ≤ g') := Lib.hid fun g' e => by
          rcases hm5 with h5 | h5
          · exact Hb.out g' (h5 ▸ e)
          · rw [h5] at e; injection e with e; right; rw [← e]; exact HC4.out.size
        have Hs5 := Lib.hid (Hs.out.snoc (y := (s, (⟨#[49, 50, 48, 48, 49, 48, 48]⟩ : ByteArray))) Hy.out)
        have hl5 : (ys ++ [(s, (⟨#[49, 50, 48, 48, 49, 48, 48]⟩ : ByteArray))]).length = ys.length + 1 := by simp
        obtain ⟨C5, cp5, rfl, _, _, _, _⟩ := own_form Ho5.out
        clear hown5 hg5 hm5 Ho4 HC4 Hnw Hs Hr4 Hy
        go_roundw
        case rel => exact ⟨_, _, rfl, by omega, Ho5, Hs5, Hr5, HC5, Hb5, _, _, rfl⟩
        case measure => simp [slLen]; omega
      · have hlt' : ¬ (ys.length : Int) < 31 := by omega
        go_wp2_with fail
        go_ret
        exact ⟨_, rfl, ys, Ho.out, hyl, Hs.out, p + 1, by omega, Hr.out, HC.out, Hb.out⟩
  have e3 : ((m : Int) == 2) = false := by simp only [beq_eq_false_iff_ne]; omega
  clear hcA hcB
  go_wp2_with fail
  go_ret
  exact ⟨_, xs, p + 1, rfl, Ho2.out, by omega, Hsz.out, by omega, Hr2.out, HC2.out, H0.out⟩

/-- Orders that are drawn: a row of the call's own from B on. -/
structure DrawnF (w : World) (B : Nat) (v : Value) (xs : List Fwd) : Prop where
  own : w.ownsRow B 34 2 v xs.length (fcs xs)
  len : xs.length ≤ 31
  sm : SmF 101 xs
theorem DrawnF.ft {w : World} {B : Nat} {v : Value} {xs : List Fwd} (h : DrawnF w B v xs) : Ft w v xs := sl_own h.own
theorem DrawnF.szf {w : World} {B : Nat} {v : Value} {xs : List Fwd} (h : DrawnF w B v xs) : Szf xs := h.sm.szf (by omega)
theorem DrawnF.below {w w' : World} {B : Nat} {v : Value} {xs : List Fwd} (h : DrawnF w B v xs) (hb : Below w.heap.size w w') : DrawnF w' B v xs := ⟨own_below h.own hb, h.len, h.sm⟩
theorem DrawnF.base {w : World} {B B' : Nat} {v : Value} {xs : List Fwd} (h : DrawnF w B v xs) (hb : B' ≤ B) : DrawnF w B' v xs := ⟨own_base h.own hb, h.len, h.sm⟩
theorem DrawnF.past {w w' : World} {B R : Nat} {v : Value} {xs : List Fwd} (h : DrawnF w B v xs) (hR : R < B) (hg : w.grownBy w' (some R)) : DrawnF w' B v xs := ⟨own_past h.own hR hg, h.len, h.sm⟩

set_option maxRecDepth 100000 in
set_option maxHeartbeats 1600000 in
theorem open4_any (R p : Nat) (w : World) (h : Reader w R p) (hp : p ≤ 68719476736) :
    Calls Try.prog 45 #[.pointer (some ⟨R, 0, none⟩)] w fun e w' => ∃ (u : Value) (ys : List Fwd) (q : Nat), e = .returned u ∧ DrawnF w' w.heap.size u ys ∧ q ≤ p + 40 ∧ Dst w R q w' := by
  have hR := h.lt
  have H1 := Lib.hid (orders_any R p w h (by omega))
  clear h
  go_enter Try.func45, Try.ntmps45
  go_wp2_with fail
  refine H1.out.mono ?_
  rintro e w2 ⟨v, xs, q, rfl, ho, hxl, hx, hq, hd2⟩
  have Hd2 := Lib.hid hd2
  have Hb := Lib.hid (bad4_any R q w.heap.size v xs w2 hd2.reader hR hd2.size ho (by omega) (fun x hm => by have := hx x hm; omega) (by omega))
  have Ho := Lib.hid ho
  clear ho hx hd2 H1
  go_wp2_with fail
  refine Hb.out.mono ?_
  rintro e w3 ⟨u, ys, q3, rfl, ho3, hyl, hys, hq3, hr3, hc3, _⟩
  go_wp2_with fail
  go_ret
  exact ⟨_, ys, q3, rfl, ⟨ho3, hyl, hys⟩, by omega, hc3.dst Hd2.out (fun g e => (Ho.out.lt g e).1) hr3⟩

set_option maxRecDepth 100000 in
set_option maxHeartbeats 1600000 in
theorem draw_direct (A : Option Addr) (c : Nat) (bs : List Int) (w : World) (h : Coded w A bs c) :
    Calls Try.prog 21 #[.slice A bs.length c] w fun e w' => ∃ (v : Value) (xs : List Fwd), e = .returned v ∧ DrawnF w' w.heap.size v xs ∧ Below w.heap.size w w' := by
  have HC := Lib.hid (coded_open h)
  clear h
  go_enter Try.func21, Try.ntmps21
  go_wp2_with fail
  refine HC.out.mono ?_
  rintro e w1 ⟨rfl, hr, hb, hl⟩
  have Hb := Lib.hid hb
  have Hl := Lib.hid hl
  have H1 := Lib.hid (open4_any w.heap.size 0 w1 hr (by omega))
  clear hr hb hl HC
  go_wp2_with fail
  refine H1.out.mono ?_
  rintro e w2 ⟨v, xs, q, rfl, hD, hq, hd2⟩
  go_wp2_with fail
  go_ret
  exact ⟨_, xs, rfl, hD.base (Nat.le_of_lt Hl.out), dst_below Hb.out Hl.out hd2⟩

-- A code that is sometimes spoilt, drawn behind orders.
set_option maxRecDepth 100000 in
set_option maxHeartbeats 1600000 in
theorem draw_next (A : Option Addr) (c : Nat) (bs : List Int) (w : World) (h : Coded w A bs c) :
    Calls Try.prog 59 #[.slice A bs.length c] w fun e w' => ∃ (v : Value) (xs : List Fwd) (s : ByteArray), e = .returned (.tuple #[v, .string s]) ∧ DrawnF w' w.heap.size v xs ∧ s.size ≤ 101 ∧ Below w.heap.size w w' := by
  have HC := Lib.hid (coded_open h)
  clear h
  go_enter Try.func59, Try.ntmps59
  go_wp2_with fail
  refine HC.out.mono ?_
  rintro e w1 ⟨rfl, hr, hb, hl⟩
  have Hb := Lib.hid hb
  have Hl := Lib.hid hl
  have H1 := Lib.hid (open4_any w.heap.size 0 w1 hr (by omega))
  clear hr hb hl HC
  go_wp2_with fail
  refine H1.out.mono ?_
  rintro e w2 ⟨v, xs, q, rfl, hD, hq, hd2⟩
  have HD := Lib.hid hD
  have Hd := Lib.hid hd2
  clear hD hd2 H1
  have H13 := Lib.hid (code4_any w.heap.size (q) w2 Hd.out.reader (by omega))
  go_wp2_with fail
  refine H13.out.mono ?_
  rintro e w3 ⟨s, rfl, hs3, hd4⟩
  have H23 := Lib.hid (badcode_any w.heap.size (q + 1) s w3 hd4.reader (by omega) (by omega) (by omega))
  replace Hd := Lib.hid (Hd.out.step hd4.grown hd4.reader)
  replace HD := Lib.hid (HD.out.past Hl.out hd4.grown)
  clear hd4 H13
  go_wp2_with fail
  refine H23.out.mono ?_
  rintro e w4 ⟨t, rfl, ht3, hd5⟩
  replace Hd := Lib.hid (Hd.out.step hd5.grown hd5.reader)
  replace HD := Lib.hid (HD.out.past Hl.out hd5.grown)
  clear hd5 H23
  go_wp2_with fail
  go_ret2
  exact ⟨_, xs, t, rfl, HD.out.base (Nat.le_of_lt Hl.out), ht3, dst_below Hb.out Hl.out Hd.out⟩

set_option maxRecDepth 100000 in
set_option maxHeartbeats 1600000 in
theorem draw_sources (A : Option Addr) (c : Nat) (bs : List Int) (w : World) (h : Coded w A bs c) :
    Calls Try.prog 30 #[.slice A bs.length c] w fun e w' => ∃ (v : Value) (xs : List Fwd) (s : ByteArray), e = .returned (.tuple #[v, .string s]) ∧ DrawnF w' w.heap.size v xs ∧ s.size ≤ 101 ∧ Below w.heap.size w w' := by
  have HC := Lib.hid (draw_next A c bs w h)
  clear h
  go_enter Try.func30, Try.ntmps30
  go_wp2_with fail
  refine HC.out.mono ?_
  rintro e w1 ⟨v, xs, s, rfl, hD, hs, hb⟩
  go_wp2_with fail
  go_ret2
  exact ⟨_, xs, s, rfl, hD, hs, hb⟩

set_option maxRecDepth 100000 in
set_option maxHeartbeats 1600000 in
theorem draw_add (A : Option Addr) (c : Nat) (bs : List Int) (w : World) (h : Coded w A bs c) :
    Calls Try.prog 26 #[.slice A bs.length c] w fun e w' => ∃ (v : Value) (xs : List Fwd) (s t : ByteArray), e = .returned (.tuple #[v, .string s, .string t]) ∧ DrawnF w' w.heap.size v xs ∧ s.size ≤ 101 ∧ t.size ≤ 101 ∧ Below w.heap.size w w' := by
  have HC := Lib.hid (coded_open h)
  clear h
  go_enter Try.func26, Try.ntmps26
  go_wp2_with fail
  refine HC.out.mono ?_
  rintro e w1 ⟨rfl, hr, hb, hl⟩
  have Hb := Lib.hid hb
  have Hl := Lib.hid hl
  have H1 := Lib.hid (open4_any w.heap.size 0 w1 hr (by omega))
  clear hr hb hl HC
  go_wp2_with fail
  refine H1.out.mono ?_
  rintro e w2 ⟨v, xs, q, rfl, hD, hq, hd2⟩
  have HD := Lib.hid hD
  have Hd := Lib.hid hd2
  clear hD hd2 H1
  have H13 := Lib.hid (code4_any w.heap.size (q) w2 Hd.out.reader (by omega))
  go_wp2_with fail
  refine H13.out.mono ?_
  rintro e w3 ⟨s, rfl, hs3, hd4⟩
  have H23 := Lib.hid (badcode_any w.heap.size (q + 1) s w3 hd4.reader (by omega) (by omega) (by omega))
  replace Hd := Lib.hid (Hd.out.step hd4.grown hd4.reader)
  replace HD := Lib.hid (HD.out.past Hl.out hd4.grown)
  clear hd4 H13
  go_wp2_with fail
  refine H23.out.mono ?_
  rintro e w4 ⟨t, rfl, ht3, hd5⟩
  replace Hd := Lib.hid (Hd.out.step hd5.grown hd5.reader)
  replace HD := Lib.hid (HD.out.past Hl.out hd5.grown)
  clear hd5 H23
  have H14 := Lib.hid (code4_any w.heap.size (q + 1 + 1) w4 Hd.out.reader (by omega))
  go_wp2_with fail
  refine H14.out.mono ?_
  rintro e w5 ⟨s2, rfl, hs4, hd4⟩
  have H24 := Lib.hid (badcode_any w.heap.size (q + 1 + 1 + 1) s2 w5 hd4.reader (by omega) (by omega) (by omega))
  replace Hd := Lib.hid (Hd.out.step hd4.grown hd4.reader)
  replace HD := Lib.hid (HD.out.past Hl.out hd4.grown)
  clear hd4 H14
  go_wp2_with fail
  refine H24.out.mono ?_
  rintro e w6 ⟨t2, rfl, ht4, hd5⟩
  replace Hd := Lib.hid (Hd.out.step hd5.grown hd5.reader)
  replace HD := Lib.hid (HD.out.past Hl.out hd5.grown)
  clear hd5 H24
  go_wp2_with fail
  go_ret3
  exact ⟨_, xs, t, t2, rfl, HD.out.base (Nat.le_of_lt Hl.out), ht3, ht4, dst_below Hb.out Hl.out Hd.out⟩

end Go.Proofs.Ytefgfdehinpbaaa
