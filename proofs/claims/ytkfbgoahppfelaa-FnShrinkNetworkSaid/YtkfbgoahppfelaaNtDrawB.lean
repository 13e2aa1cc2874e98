
/- The walks of what spoils codes and rules. -/
import Derived.Test.YtkfbgoahppfelaaNtDraw
namespace Go.Proofs.Ytkfbgoahppfelaa
open Go.RowKit
set_option linter.unusedVariables false

/-- Only block R, block b and new ones changed. -/
structure Chg (w w' : World) (R : Nat) (b : Option Nat) : Prop where
  os : w'.os = w.os
  tape : w'.tape = w.tape
  output : w'.output = w.output
  size : w.heap.size ≤ w'.heap.size
  block : ∀ k, k < w.heap.size → k ≠ R → some k ≠ b → w'.heap[k]? = w.heap[k]?
theorem Chg.refl (w : World) (R : Nat) (b : Option Nat) : Chg w w R b := ⟨rfl, rfl, rfl, Nat.le_refl _, fun _ _ _ _ => rfl⟩
theorem Chg.draw {w w1 w2 : World} {R : Nat} {b : Option Nat} (h : Chg w w1 R b) (k : w1.grownBy w2 (some R)) : Chg w w2 R b :=
  ⟨k.os.trans h.os, k.tape.trans h.tape, k.output.trans h.output, Nat.le_trans h.size k.size, fun j hj hR hb => (k.block j (Nat.lt_of_lt_of_le hj h.size) (fun e => hR (by injection e))).trans (h.block j hj hR hb)⟩
theorem Chg.row {w w1 w2 : World} {R : Nat} {b row : Option Nat} (h : Chg w w1 R b) (k : w1.grownBy w2 row) (hr : ∀ g, row = some g → some g = b ∨ w.heap.size ≤ g) : Chg w w2 R b :=
  ⟨k.os.trans h.os, k.tape.trans h.tape, k.output.trans h.output, Nat.le_trans h.size k.size, fun j hj hR hb => (k.block j (Nat.lt_of_lt_of_le hj h.size) (fun e => by
    rcases hr j e.symm with h1 | h1
    · exact hb h1
    · omega)).trans (h.block j hj hR hb)⟩
theorem Chg.below {w w1 w2 : World} {R : Nat} {b : Option Nat} (h : Chg w w1 R b) (k : Below w1.heap.size w1 w2) : Chg w w2 R b :=
  ⟨k.os.trans h.os, k.tape.trans h.tape, k.output.trans h.output, Nat.le_trans h.size k.size, fun j hj hR hb => (k.block j (Nat.lt_of_lt_of_le hj h.size)).trans (h.block j hj hR hb)⟩
theorem Chg.own {w w' : World} {R B n : Nat} {b : Option Nat} {e : TypeId} {size : Nat} {v : Value} {cs : List Value} (h : Chg w w' R b) (ho : w.ownsRow B e size v n cs) (hR : R < B) (ha : ∀ g, v.ownBlock = some g → some g ≠ b) : w'.ownsRow B e size v n cs := by
  have hlt := ho.lt
  refine ⟨ho.1, ?_⟩
  rcases ho.2 with h0 | ⟨g, cap, cur, hv, hg, hh, r⟩
  · exact .inl h0
  · have hb2 : v.ownBlock = some g := by rw [hv]; rfl
    have h1 := hlt g hb2
    exact .inr ⟨g, cap, cur, hv, hg, by rw [h.block g h1.2 (by omega) (ha g hb2)]; exact hh, r⟩
/-- .. where the block lies in a part that is the call's own. -/
theorem Chg.dst {w0 w w' : World} {R p q : Nat} {b : Option Nat} (h : Chg w w' R b) (hd : Dst w0 R p w) (hb : ∀ g, b = some g → w0.heap.size ≤ g) (hr : Reader w' R q) : Dst w0 R q w' :=
  ⟨⟨h.os.trans hd.grown.os, h.tape.trans hd.grown.tape, h.output.trans hd.grown.output, Nat.le_trans hd.grown.size h.size, fun k hk hR => (h.block k (Nat.lt_of_lt_of_le hk hd.grown.size) (fun e => hR (by rw [e])) (fun e => by have := hb k e.symm; omega)).trans (hd.grown.block k hk hR)⟩, hr⟩

/-- The number of a slice's elements. -/
def slLen : Value → Nat
  | .slice _ n _ => n
  | _ => 0
theorem own_some' {w : World} {B n : Nat} {e : TypeId} {size : Nat} {A : Option Addr} {c : Nat} {cs : List Value} (h : w.ownsRow B e size (.slice A n c) n cs) (hn : 0 < n) : ∃ g, A = some ⟨g, 0, none⟩ := by
  rcases h.2 with ⟨_, h0⟩ | ⟨g, cap, cur, hv, _⟩
  · omega
  · injection hv with hv; exact ⟨g, hv⟩

set_option maxRecDepth 100000 in
set_option maxHeartbeats 800000 in
theorem badcode_any (R p : Nat) (s : ByteArray) (w : World) (h : Reader w R p) (hp : p ≤ 549755813888) (hs1 : 1 ≤ s.size) (hs2 : s.size ≤ 100) :
    Calls Try.prog 45 #[.pointer (some ⟨R, 0, none⟩), .string s] w fun e w' => ∃ s' : ByteArray, e = .returned (.string s') ∧ s'.size ≤ 101 ∧ Dst w R (p + 1) w' := by
  have h1 := pick_any R p 40 w h (by omega) (by omega)
  have H1 := Lib.hid h1
  have Hd0 := Lib.hid (Dst.start h)
  clear h1 h
  go_enter Try.func45, Try.ntmps45
  go_wp2_with fail
  refine H1.out.mono ?_
  rintro e w1 ⟨a, rfl, ha, hr1, hg1⟩
  obtain ⟨n, rfl, hn⟩ := nat_of (ha.pos (by omega))
  have Hd1 := Lib.hid (Hd0.out.step hg1 hr1)
  clear ha hr1 hg1 H1 Hd0
  have z48 : (⟨#[48]⟩ : ByteArray).size = 1 := rfl
  have z120 : (⟨#[120]⟩ : ByteArray).size = 1 := rfl
  by_cases h0 : n = 0
  · subst h0
    have y1 : (s ++ (⟨#[48]⟩ : ByteArray)).size ≤ 101 := by rw [ByteArray.size_append, z48]; omega
    go_wp2_with fail
    go_ret
    exact ⟨_, rfl, y1, Hd1.out⟩
  have e0 : ((n : Int) == 0) = false := by simp only [beq_eq_false_iff_ne]; omega
  by_cases h1 : n = 1
  · subst h1
    have b1 : (0 : Int) ≤ (s.size : Int) - 1 := by omega
    have b2 : (s.size : Int) - 1 ≤ s.size := by omega
    have y0 : (s.extract 0 (s.size - 1)).size ≤ 100 := by rw [ByteArray.size_extract]; omega
    have y1 : (s.extract 0 (s.size - 1) ++ (⟨#[120]⟩ : ByteArray)).size ≤ 101 := by rw [ByteArray.size_append, z120]; omega
    have y2 : ((s.size : Int) - 1).toNat = s.size - 1 := by omega
    go_wp2_with fail
    go_ret
    exact ⟨_, rfl, by first | exact y1 | (simp [y2]; omega), Hd1.out⟩
  have e1 : ((n : Int) == 1) = false := by simp only [beq_eq_false_iff_ne]; omega
  by_cases h2 : n = 2
  · subst h2
    go_wp2_with fail
    go_ret
    exact ⟨_, rfl, by show (0 : Nat) ≤ 101; omega, Hd1.out⟩
  have e2 : ((n : Int) == 2) = false := by simp only [beq_eq_false_iff_ne]; omega
  go_wp2_with fail
  go_ret
  exact ⟨_, rfl, by omega, Hd1.out⟩


set_option maxRecDepth 100000 in
set_option maxHeartbeats 400000 in
theorem show_any (x m : Nat) (w : World) (hm : m ≤ 7) (hx : x ≤ 1099511627776) :
    Calls Try.prog 75 #[.int .i64 x, .int .i64 m] w fun e w' => (∃ s : ByteArray, e = .returned (.string s) ∧ s.size = m) ∧ Below w.heap.size w w' := by
  go_enter Try.func75, Try.ntmps75
  go_wp2_with fail
  go_loopw [0, 5, 6] (fun v s i wr => ∃ (y k : Nat) (out : ByteArray), k ≤ m ∧ y ≤ 1099511627776 ∧ v = .int .i64 y ∧ s = .string out ∧ i = .int .i64 k ∧ out.size = k ∧ Hid (Below w.heap.size w wr)) (fun _ _ i _ => m - (intOf i).toNat)
  case atStart => exact ⟨x, 0, ⟨#[]⟩, Nat.zero_le _, hx, rfl, rfl, rfl, rfl, Lib.hid (Below.refl _ _)⟩
  case round =>
    obtain ⟨y, k, out, hk, hyb, rfl, rfl, rfl, hos, Hb⟩ := hrel
    by_cases hlt : k < m
    · have hdc := dec_any (y % 10) wr (by omega)
      have Hdc := Lib.hid hdc
      have hcs := size_dgt (y % 10)
      have hsz : (dgt (y % 10) ++ out).size = k + 1 := by rw [ByteArray.size_append, hcs]; omega
      clear hdc
      go_wp2_with fail
      refine Hdc.out.mono ?_
      rintro e w2 ⟨rfl, hb2⟩
      have Hb2 := Lib.hid (below_trans' Hb.out hb2)
      clear hb2 Hb Hdc
      go_wp2_with fail
      go_roundw
      case rel => exact ⟨y / 10, k + 1, _, by omega, by omega, by go_num, rfl, by go_num, hsz, Hb2⟩
      case measure => simp [intOf]; omega
    · have hk' : k = m := by omega
      subst hk'
      go_wp2_with fail
      go_ret
      exact ⟨⟨_, rfl, hos⟩, Hb.out⟩

theorem rcs_set1 {xs : List Rul} {k : Nat} {x : Rul} (h : xs[k]? = some x) (s : ByteArray) : (rcs xs).set (k * 2) (.string s) = rcs (xs.set k (s, x.2)) := by
  obtain ⟨h0, h1⟩ := cs2_get (f := rtf) h
  have e : rcs (xs.set k (s, x.2)) = cs2 rtf (xs.set k (s, x.2)) := rfl
  rw [e, ← cs2_set]
  apply List.ext_getElem?
  intro j
  by_cases hj : k * 2 + 1 = j
  · subst hj
    rw [List.getElem?_set_ne (by omega), List.getElem?_set_self (by rw [List.length_set]; exact (List.getElem?_eq_some_iff.1 h1).1), h1]
    rfl
  · rw [List.getElem?_set_ne hj]; rfl
/-- Rules of which no string is long. -/
def SmT (m : Nat) (xs : List Rul) : Prop := ∀ x ∈ xs, x.1.size ≤ m ∧ x.2.size ≤ m
theorem SmT.set {m : Nat} {xs : List Rul} {k : Nat} {y : Rul} (h : SmT m xs) (hy : y.1.size ≤ m ∧ y.2.size ≤ m) : SmT m (xs.set k y) := by
  intro x hx
  rcases List.mem_or_eq_of_mem_set hx with h1 | h1
  · exact h x h1
  · rw [h1]; exact hy
theorem SmT.snoc {m : Nat} {xs : List Rul} {y : Rul} (h : SmT m xs) (hy : y.1.size ≤ m ∧ y.2.size ≤ m) : SmT m (xs ++ [y]) := by
  intro x hx
  rcases List.mem_append.1 hx with h1 | h1
  · exact h x h1
  · simp at h1; subst h1; exact hy
theorem SmT.szr {m : Nat} {xs : List Rul} (h : SmT m xs) (hm : m ≤ 1000) : Szr xs := fun x hx => by have := h x hx; unfold maxLen; omega

set_option maxRecDepth 100000 in
set_option maxHeartbeats 1600000 in
theorem bad6_any (R p B : Nat) (v : Value) (xs : List Rul) (w : World) (h : Reader w R p) (hR : R < B) (hB : B ≤ w.heap.size) (ho : w.ownsRow B 31 2 v xs.length (rcs xs)) (hl : xs.length ≤ 20) (hx : SmT 100 xs) (hp : p ≤ 274877906944) :
    Calls Try.prog 43 #[.pointer (some ⟨R, 0, none⟩), v] w fun e w' => ∃ (u : Value) (ys : List Rul) (q : Nat), e = .returned u ∧ w'.ownsRow B 31 2 u ys.length (rcs ys) ∧ ys.length ≤ 21 ∧ SmT 100 ys ∧ q ≤ p + 10 ∧ Reader w' R q ∧ Chg w w' R v.ownBlock := by
  obtain ⟨A, c, rfl, hnc, hcm, hA, hA2⟩ := own_form ho
  have Ho := Lib.hid ho
  have Hsz := Lib.hid hx
  have Hr := Lib.hid h
  obtain ⟨b, hbb⟩ : ∃ b, b = (Value.slice A xs.length c).ownBlock := ⟨_, rfl⟩
  have Hbb := Lib.hid hbb
  have HC0 : Hid (Chg w w R b) := Lib.hid (Chg.refl _ _ _)
  rw [← hbb]
  clear ho hA hA2 hx hcm hbb
  by_cases hn : xs.length = 0
  · have e0 : ((xs.length : Int) == 0) = true := by simp [hn]
    clear hn h
    go_enter Try.func43, Try.ntmps43
    go_wp2_with fail
    go_ret
    exact ⟨_, xs, p, rfl, Ho.out, by omega, Hsz.out, by omega, Hr.out, HC0.out⟩
  have e0 : ((xs.length : Int) == 0) = false := by simp only [beq_eq_false_iff_ne]; omega
  have h1 := pick_any R p xs.length w h (by omega) (by omega)
  have H1 := Lib.hid h1
  clear h1 h
  go_enter Try.func43, Try.ntmps43
  go_wp2_with fail
  refine H1.out.mono ?_
  rintro e w1 ⟨a, rfl, ha, hr1, hg1⟩
  obtain ⟨k, rfl, hk⟩ := nat_of (ha.pos (by omega))
  have HC1 := Lib.hid (HC0.out.draw hg1)
  have Ho1 := Lib.hid (own_past Ho.out hR hg1)
  have h2 := pick_any R (p + 1) 40 w1 hr1 (by omega) (by omega)
  have H2 := Lib.hid h2
  clear h2 ha hr1 hg1 H1 Ho HC0 Hr
  go_wp2_with fail
  refine H2.out.mono ?_
  rintro e w2 ⟨a2, rfl, ha2, hr2, hg2⟩
  obtain ⟨m, rfl, hm⟩ := nat_of (ha2.pos (by omega))
  have HC2 := Lib.hid (HC1.out.draw hg2)
  have Ho2 := Lib.hid (own_past Ho1.out hR hg2)
  have Hr2 := Lib.hid hr2
  clear ha2 hr2 hg2 H2 Ho1 HC1
  have hkl : k < xs.length := by omega
  obtain ⟨x, hxk⟩ : ∃ x, xs[k]? = some x := ⟨_, List.getElem?_eq_getElem hkl⟩
  obtain ⟨g, rfl⟩ := own_some' Ho2.out (by omega)
  have Hxk := Lib.hid hxk
  have hxs := Hsz.out x (List.mem_of_getElem? hxk)
  have hbr : ∀ g', (some g : Option Nat) = some g' → some g' = b ∨ w.heap.size ≤ g' := fun g' e => .inl (by rw [Hbb.out, ← e]; rfl)
  have Hbr := Lib.hid hbr
  clear hbr
  by_cases h0 : m = 0
  · subst h0
    have h0l : 0 < xs.length := by omega
    obtain ⟨x0, hx0⟩ : ∃ x0, xs[0]? = some x0 := ⟨_, List.getElem?_eq_getElem h0l⟩
    have hcA : w2.cell? ⟨g, 0, none⟩ = some (.string x0.1) := (Ho2.out.cellAt _ (by omega)).trans (by have := (cs2_get (f := rtf) hx0).1; simpa [rtf] using this)
    have hx0s := (Hsz.out x0 (List.mem_of_getElem? hx0)).1
    have hb1 := of_lit R (p + 1 + 1) w2.heap.size 3 #[.string ⟨#[120]⟩, .string ⟨#[49, 50, 48, 48, 49, 48, 49, 49]⟩, .string x0.1] [⟨#[120]⟩, ⟨#[49, 50, 48, 48, 49, 48, 49, 49]⟩, x0.1] w2 Hr2.out (by omega) rfl rfl rfl (by simp) (by simp)
    have Hb1 := Lib.hid hb1
    clear hb1 hxk hx0
    go_wp2_with fail
    refine Hb1.out.mono ?_
    rintro e w3 ⟨s', rfl, hs', hr3, hg3⟩
    have hs9 : s'.size ≤ 100 := by
      simp at hs'
      rcases hs' with rfl | rfl | rfl
      · show (1 : Nat) ≤ 100; omega
      · show (8 : Nat) ≤ 100; omega
      · exact hx0s
    have HC3 := Lib.hid (HC2.out.draw hg3)
    have ho3 := own_past Ho2.out hR hg3
    have hcB3 : w3.cell? ⟨g, k * 2, none⟩ = some (.string x.1) := (ho3.cellAt _ (by omega)).trans (cs2_get (f := rtf) Hxk.out).1
    have hfz3 : w3.frozen? ⟨g, k * 2, none⟩ = false := ho3.frozenAt _
    have hst := ho3.stored (k * 2) (.string s')
    rw [rcs_set1 Hxk.out] at hst
    have Hst := Lib.hid hst
    have Hr3 := Lib.hid hr3
    clear hst ho3 hr3 hg3 Hb1 Ho2 HC2 hs' hcA
    go_wp2_with fail
    go_ret
    refine ⟨_, xs.set k (s', x.2), p + 1 + 1 + 1, rfl, by rw [List.length_set]; exact Hst.out.1, by rw [List.length_set]; omega, Hsz.out.set ⟨hs9, hxs.2⟩, by omega, ?_, ?_⟩
    · have hg := Hst.out.2
      exact Hr3.out.upto (B := B) ⟨hg.os, hg.tape, hg.output, hg.size, fun j hj => hg.block j (by have := HC3.out.size; omega) (fun e => by injection e with e; have := (Hst.out.1.lt g rfl).1; omega)⟩ hR
    · exact HC3.out.row (by simpa [Value.ownBlock] using Hst.out.2) Hbr.out
  have e1 : ((m : Int) == 0) = false := by simp only [beq_eq_false_iff_ne]; omega
  by_cases h1 : m = 1
  · subst h1
    have hb1 := of_lit R (p + 1 + 1) w2.heap.size 3 #[.string ⟨#[]⟩, .string ⟨#[65]⟩, .string ⟨#[97, 98, 99, 100, 101, 102, 103, 104, 105]⟩] [⟨#[]⟩, ⟨#[65]⟩, ⟨#[97, 98, 99, 100, 101, 102, 103, 104, 105]⟩] w2 Hr2.out (by omega) rfl rfl rfl (by simp) (by simp)
    have Hb1 := Lib.hid hb1
    clear hb1 hxk
    go_wp2_with fail
    refine Hb1.out.mono ?_
    rintro e w3 ⟨s', rfl, hs', hr3, hg3⟩
    have hs9 : s'.size ≤ 100 := by
      simp at hs'
      rcases hs' with rfl | rfl | rfl
      · show (0 : Nat) ≤ 100; omega
      · show (1 : Nat) ≤ 100; omega
      · show (9 : Nat) ≤ 100; omega
    have HC3 := Lib.hid (HC2.out.draw hg3)
    have ho3 := own_past Ho2.out hR hg3
    have hcB3 : w3.cell? ⟨g, k * 2 + 1, none⟩ = some (.string x.2) := (ho3.cellAt _ (by omega)).trans (cs2_get (f := rtf) Hxk.out).2
    have hfz3 : w3.frozen? ⟨g, k * 2 + 1, none⟩ = false := ho3.frozenAt _
    have hst := ho3.stored (k * 2 + 1) (.string s')
    rw [rcs_set2 Hxk.out] at hst
    have Hst := Lib.hid hst
    have Hr3 := Lib.hid hr3
    clear hst ho3 hr3 hg3 Hb1 Ho2 HC2 hs'
    go_wp2_with fail
    go_ret
    refine ⟨_, xs.set k (x.1, s'), p + 1 + 1 + 1, rfl, by rw [List.length_set]; exact Hst.out.1, by rw [List.length_set]; omega, Hsz.out.set ⟨hxs.1, hs9⟩, by omega, ?_, ?_⟩
    · have hg := Hst.out.2
      exact Hr3.out.upto (B := B) ⟨hg.os, hg.tape, hg.output, hg.size, fun j hj => hg.block j (by have := HC3.out.size; omega) (fun e => by injection e with e; have := (Hst.out.1.lt g rfl).1; omega)⟩ hR
    · exact HC3.out.row (by simpa [Value.ownBlock] using Hst.out.2) Hbr.out
  have e2 : ((m : Int) == 1) = false := by simp only [beq_eq_false_iff_ne]; omega
  by_cases h2 : m = 2
  · subst h2
    have Hw := Lib.hid (Nat.le_trans hB HC2.out.size)
    have H0 : Hid (∀ g', (Value.slice (some ⟨g, 0, none⟩) xs.length c).ownBlock = some g' → some g' = b ∨ w.heap.size ≤ g') := Lib.hid fun g' e => Hbr.out g' e
    clear hxk hxs
    go_wp2_with fail
    go_loopw [1] (fun bv wr => ∃ (ys : List Rul) (u0 : Value), u0 = bv ∧ ys.length ≤ 21 ∧ Hid (wr.ownsRow B 31 2 u0 ys.length (rcs ys)) ∧ Hid (SmT 100 ys) ∧ Hid (Reader wr R (p + 1 + 1)) ∧ Hid (Chg w wr R b) ∧ Hid (∀ g', u0.ownBlock = some g' → some g' = b ∨ w.heap.size ≤ g') ∧ (∃ C cp, u0 = .slice C ys.length cp)) (fun bv _ => 21 - slLen bv)
    case atStart => exact ⟨xs, _, rfl, by omega, Ho2, Hsz, Hr2, HC2, H0, _, _, rfl⟩
    case round =>
      obtain ⟨ys, u0, rfl, hyl, Ho, Hs, Hr, HC, Hb, C, cp, rfl⟩ := hrel
      clear Ho2 Hsz Hr2 HC2 H0
      by_cases hlt : ys.length < 21
      · have hlt' : (ys.length : Int) < 21 := by omega
        have hsh := show_any ys.length 3 wr (by omega) (by omega)
        have Hsh := Lib.hid hsh
        clear hsh
        go_wp2_with fail
        refine Hsh.out.mono ?_
        rintro e w3 ⟨⟨s, rfl, hs3⟩, hb3⟩
        obtain ⟨y, hy⟩ : ∃ y : Rul, y = (s, (⟨#[97]⟩ : ByteArray)) := ⟨_, rfl⟩
        obtain ⟨wn, hwn⟩ : ∃ wn, wn = w3.alloc (.cells #[.string s, .string ⟨#[97]⟩] 31) := ⟨_, rfl⟩
        have hbl : Below wr.heap.size wr wn := by rw [hwn]; exact below_trans' hb3 ((Below.refl _ _).alloc (Nat.le_refl _) _)
        have Ho4 := Lib.hid (own_below Ho.out hbl)
        have HC4 := Lib.hid (HC.out.below hbl)
        have Hr4 := Lib.hid (Hr.out.below hbl)
        have hnw : Rd wn (some ⟨w3.heap.size, 0, none⟩) (rcs [y]) := by subst hy; rw [hwn]; exact rd_new w3 (rcs [(s, (⟨#[97]⟩ : ByteArray))]) 31
        have Hnw := Lib.hid hnw
        have Hy : Hid (y.1.size ≤ 100 ∧ y.2.size ≤ 100) := Lib.hid (by subst hy; exact ⟨by show s.size ≤ 100; omega, by show (1 : Nat) ≤ 100; omega⟩)
        have Hw4 : Hid (B ≤ wn.heap.size) := Lib.hid (Nat.le_trans hB HC4.out.size)
        clear hnw hbl hy Ho HC Hr hb3 Hsh
        go_wp2_with (at_builtin; simp only [← hwn]; refine wpList_append_rd rfl (.tmp 43) (.tmp 48) 23 rfl rul_elem (base := B) (.slice C ys.length cp) ys.length (rcs ys) rfl Ho4.out (some ⟨w3.heap.size, 0, none⟩) 1 1 (rcs [y]) rfl rfl Hnw.out (rcs_oneCell _) (by unfold maxLen; omega) (by omega) Hw4.out ?_; intro v5 w5 hown5 hg5 hm5)
        have Ho5 : Hid (w5.ownsRow B 31 2 v5 (ys ++ [y]).length (rcs (ys ++ [y]))) := Lib.hid (by rw [List.length_append, show rcs (ys ++ [y]) = rcs ys ++ rcs [y] from cs2_append _ _]; exact hown5)
        have HC5 := Lib.hid (HC4.out.row hg5 Hb.out)
        have Hr5 := Lib.hid (Hr4.out.upto (B := B) ⟨hg5.os, hg5.tape, hg5.output, hg5.size, fun j hj => hg5.block j (by have := Hw4.out; omega) (fun e => by have := (Ho4.out.lt j e.symm).1; omega)⟩ hR)
        have Hb5 : Hid (∀ g', v5.ownBlock = some g' → some g' = b ∨ w.heap.size ≤ g') := Lib.hid fun g' e => by
          rcases hm5 with h5 | h5
          · exact Hb.out g' (h5 ▸ e)
          · rw [h5] at e; injection e with e; right; rw [← e]; exact HC4.out.size
        have Hs5 := Lib.hid (Hs.out.snoc Hy.out)
        have hl5 : (ys ++ [y]).length = ys.length + 1 := by simp
        obtain ⟨C5, cp5, rfl, _, _, _, _⟩ := own_form Ho5.out
        clear hown5 hg5 hm5 Ho4 HC4 Hnw Hs Hr4 Hy
        go_roundw
        case rel => exact ⟨_, _, rfl, by omega, Ho5, Hs5, Hr5, HC5, Hb5, _, _, rfl⟩
        case measure => simp [slLen]; omega
      · have hlt' : ¬ (ys.length : Int) < 21 := by omega
        go_wp2_with fail
        go_ret
        exact ⟨_, rfl, ys, Ho.out, hyl, Hs.out, p + 1 + 1, by omega, Hr.out, HC.out⟩
  have e3 : ((m : Int) == 2) = false := by simp only [beq_eq_false_iff_ne]; omega
  clear hxk
  go_wp2_with fail
  go_ret
  exact ⟨_, xs, p + 1 + 1, rfl, Ho2.out, by omega, Hsz.out, by omega, Hr2.out, HC2.out⟩

end Go.Proofs.Ytkfbgoahppfelaa
