
/- The walk of what spoils letters (l2Bad) and draws them (l2Open). -/
import Derived.Test.YtfhnjpjlpddpmaaDoorTyDrawB
namespace Go.Proofs.YtfhnjpjlpddpmaaDoor
open Go.RowKit
set_option linter.unusedVariables false

/-- Only block R, block b and new ones changed. -/
structure Chg (w w' : World) (R : Nat) (b : Option Nat) : Prop where
  os : w'.os = w.os
  tape : w'.tape = w.tape
  output : w'.output = w.output
  size : w.heap.size ≤ w'.heap.size
  block : ∀ k, k < w.heap.size → k ≠ R → some k ≠ b → w'.heap[k]? = w.heap[k]?
theorem Chg.refl (w : World) (R : Nat) (b : Option Nat) : Chg w w R b := ⟨rfl, rfl, rfl, Nat.le_refl _, fun _ _ _ _ => rfl⟩
theorem Chg.draw {w w1 w2 : World} {R : Nat} {b : Option Nat} (h : Chg w w1 R b) (k : w1.grownBy w2 (some R)) : Chg w w2 R b :=
  ⟨k.os.trans h.os, k.tape.trans h.tape, k.output.trans h.output, Nat.le_trans h.size k.size, fun j hj hR hb => (k.block j (Nat.lt_of_lt_of_le hj h.size) (fun e => hR (by injection e))).trans (h.block j hj hR hb)⟩
theorem Chg.row {w w1 w2 : World} {R : Nat} {b row : Option Nat} (h : Chg w w1 R b) (k : w1.grownBy w2 row) (hr : ∀ g, row = some g → some g = b ∨ w.heap.size ≤ g) : Chg w w2 R b :=
  ⟨k.os.trans h.os, k.tape.trans h.tape, k.output.trans h.output, Nat.le_trans h.size k.size, fun j hj hR hb => (k.block j (Nat.lt_of_lt_of_le hj h.size) (fun e => by
    rcases hr j e.symm with h1 | h1
    · exact hb h1
    · omega)).trans (h.block j hj hR hb)⟩
theorem Chg.below {w w1 w2 : World} {R : Nat} {b : Option Nat} (h : Chg w w1 R b) (k : Below w1.heap.size w1 w2) : Chg w w2 R b :=
  ⟨k.os.trans h.os, k.tape.trans h.tape, k.output.trans h.output, Nat.le_trans h.size k.size, fun j hj hR hb => (k.block j (Nat.lt_of_lt_of_le hj h.size)).trans (h.block j hj hR hb)⟩
theorem Chg.own {w w' : World} {R B n : Nat} {b : Option Nat} {e : TypeId} {size : Nat} {v : Value} {cs : List Value} (h : Chg w w' R b) (ho : w.ownsRow B e size v n cs) (hR : R < B) (ha : ∀ g, v.ownBlock = some g → some g ≠ b) : w'.ownsRow B e size v n cs := by
  have hlt := ho.lt
  refine ⟨ho.1, ?_⟩
  rcases ho.2 with h0 | ⟨g, cap, cur, hv, hg, hh, r⟩
  · exact .inl h0
  · have hb2 : v.ownBlock = some g := by rw [hv]; rfl
    have h1 := hlt g hb2
    exact .inr ⟨g, cap, cur, hv, hg, by rw [h.block g h1.2 (by omega) (ha g hb2)]; exact hh, r⟩
/-- .. where the block lies in a part that is the call's own. -/
theorem Chg.dst {w0 w w' : World} {R p q : Nat} {b : Option Nat} (h : Chg w w' R b) (hd : Dst w0 R p w) (hb : ∀ g, b = some g → w0.heap.size ≤ g) (hr : Reader w' R q) : Dst w0 R q w' :=
  ⟨⟨h.os.trans hd.grown.os, h.tape.trans hd.grown.tape, h.output.trans hd.grown.output, Nat.le_trans hd.grown.size h.size, fun k hk hR => (h.block k (Nat.lt_of_lt_of_le hk hd.grown.size) (fun e => hR (by rw [e])) (fun e => by have := hb k e.symm; omega)).trans (hd.grown.block k hk hR)⟩, hr⟩

theorem lcs_set1 {xs : List Ltr} {k : Nat} {x : Ltr} (h : xs[k]? = some x) (n : Int) : (lcs xs).set (k * 2) (.int .i64 n) = lcs (xs.set k (n, x.2)) := by
  obtain ⟨h0, h1⟩ := cs2_get (f := ltf) h
  have e : lcs (xs.set k (n, x.2)) = cs2 ltf (xs.set k (n, x.2)) := rfl
  rw [e, ← cs2_set]
  apply List.ext_getElem?
  intro j
  by_cases hj : k * 2 + 1 = j
  · subst hj
    rw [List.getElem?_set_ne (by omega), List.getElem?_set_self (by rw [List.length_set]; exact (List.getElem?_eq_some_iff.1 h1).1), h1]
    rfl
  · rw [List.getElem?_set_ne hj]; rfl
theorem lcs_set2 {xs : List Ltr} {k : Nat} {x : Ltr} (h : xs[k]? = some x) (s : ByteArray) : (lcs xs).set (k * 2 + 1) (.string s) = lcs (xs.set k (x.1, s)) := by
  obtain ⟨h0, h1⟩ := cs2_get (f := ltf) h
  have e : lcs (xs.set k (x.1, s)) = cs2 ltf (xs.set k (x.1, s)) := rfl
  rw [e, ← cs2_set]
  apply List.ext_getElem?
  intro j
  by_cases hj : k * 2 + 1 = j
  · subst hj
    have hl := (List.getElem?_eq_some_iff.1 h1).1
    rw [List.getElem?_set_self hl, List.getElem?_set_self (by rw [List.length_set]; exact hl)]
    rfl
  · rw [List.getElem?_set_ne hj, List.getElem?_set_ne hj]
    by_cases hj2 : k * 2 = j
    · subst hj2
      rw [List.getElem?_set_self (List.getElem?_eq_some_iff.1 h0).1, h0]
      rfl
    · rw [List.getElem?_set_ne hj2]
theorem set_sizes {xs : List Ltr} {k m : Nat} {y : Ltr} (h : ∀ x ∈ xs, x.2.size ≤ m) (hy : y.2.size ≤ m) : ∀ x ∈ xs.set k y, x.2.size ≤ m := by
  intro x hx
  rcases List.mem_or_eq_of_mem_set hx with h1 | h1
  · exact h x h1
  · rw [h1]; exact hy
/-- The number of a slice's elements. -/
def slLen : Value → Nat
  | .slice _ n _ => n
  | _ => 0
theorem own_some' {w : World} {B n : Nat} {e : TypeId} {size : Nat} {A : Option Addr} {c : Nat} {cs : List Value} (h : w.ownsRow B e size (.slice A n c) n cs) (hn : 0 < n) : ∃ g, A = some ⟨g, 0, none⟩ := by
  rcases h.2 with ⟨_, h0⟩ | ⟨g, cap, cur, hv, _⟩
  · omega
  · injection hv with hv; exact ⟨g, hv⟩

set_option maxRecDepth 100000 in
set_option maxHeartbeats 1600000 in
theorem bad2_any (R p B : Nat) (v : Value) (xs : List Ltr) (w : World) (h : Reader w R p) (hR : R < B) (hB : B ≤ w.heap.size) (ho : w.ownsRow B 35 2 v xs.length (lcs xs)) (hl : xs.length ≤ 60) (hx : ∀ x ∈ xs, x.2.size = 7) (hp : p ≤ 274877906944) :
    Calls Tryd.prog 46 #[.pointer (some ⟨R, 0, none⟩), v] w fun e w' => ∃ (u : Value) (ys : List Ltr) (q : Nat), e = .returned u ∧ w'.ownsRow B 35 2 u ys.length (lcs ys) ∧ ys.length ≤ 61 ∧ (∀ y ∈ ys, y.2.size ≤ 101) ∧ q ≤ p + 10 ∧ Reader w' R q ∧ Chg w w' R v.ownBlock := by
  obtain ⟨A, c, rfl, hnc, hcm, hA, hA2⟩ := own_form ho
  have Ho := Lib.hid ho
  have Hsz : Hid (∀ x ∈ xs, x.2.size ≤ 101) := Lib.hid fun x hm => by have := hx x hm; omega
  have H7 := Lib.hid hx
  have Hr := Lib.hid h
  obtain ⟨b, hbb⟩ : ∃ b, b = (Value.slice A xs.length c).ownBlock := ⟨_, rfl⟩
  have Hbb := Lib.hid hbb
  have HC0 : Hid (Chg w w R b) := Lib.hid (Chg.refl _ _ _)
  rw [← hbb]
  clear ho hA hA2 hx hcm hbb
  by_cases hn : xs.length = 0
  · have e0 : ((xs.length : Int) == 0) = true := by simp [hn]
    clear hn h
    go_enter Tryd.func46, Tryd.ntmps46
    go_wp2_with fail
    go_ret
    exact ⟨_, xs, p, rfl, Ho.out, by omega, Hsz.out, by omega, Hr.out, HC0.out⟩
  have e0 : ((xs.length : Int) == 0) = false := by simp only [beq_eq_false_iff_ne]; omega
  have h1 := pick_any R p xs.length w h (by omega) (by omega)
  have H1 := Lib.hid h1
  clear h1 h
  go_enter Tryd.func46, Tryd.ntmps46
  go_wp2_with fail
  refine H1.out.mono ?_
  rintro e w1 ⟨a, rfl, ha, hr1, hg1⟩
  obtain ⟨k, rfl, hk⟩ := nat_of (ha.pos (by omega))
  have HC1 := Lib.hid (HC0.out.draw hg1)
  have Ho1 := Lib.hid (own_past Ho.out hR hg1)
  have h2 := pick_any R (p + 1) 40 w1 hr1 (by omega) (by omega)
  have H2 := Lib.hid h2
  clear h2 ha hr1 hg1 H1 Ho HC0 Hr
  go_wp2_with fail
  refine H2.out.mono ?_
  rintro e w2 ⟨a2, rfl, ha2, hr2, hg2⟩
  obtain ⟨m, rfl, hm⟩ := nat_of (ha2.pos (by omega))
  have HC2 := Lib.hid (HC1.out.draw hg2)
  have Ho2 := Lib.hid (own_past Ho1.out hR hg2)
  have Hr2 := Lib.hid hr2
  clear ha2 hr2 hg2 H2 Ho1 HC1
  have hkl : k < xs.length := by omega
  obtain ⟨x, hxk⟩ : ∃ x, xs[k]? = some x := ⟨_, List.getElem?_eq_getElem hkl⟩
  obtain ⟨g, rfl⟩ := own_some' Ho2.out (by omega)
  have Hxk := Lib.hid hxk
  have hx7 := H7.out x (List.mem_of_getElem? hxk)
  have hbr : ∀ g', (some g : Option Nat) = some g' → some g' = b ∨ w.heap.size ≤ g' := fun g' e => .inl (by rw [Hbb.out, ← e]; rfl)
  have Hbr := Lib.hid hbr
  clear hbr
  by_cases h0 : m = 0
  · subst h0
    have hcB : w2.cell? ⟨g, k * 2 + 1, none⟩ = some (.string x.2) := (Ho2.out.cellAt _ (by omega)).trans (cs2_get (f := ltf) hxk).2
    have z49 : (⟨#[49]⟩ : ByteArray).size = 1 := rfl
    have zz : (x.2 ++ (⟨#[49]⟩ : ByteArray)).size = 8 := by rw [ByteArray.size_append, z49, hx7]
    have hb1 := badcode_any R (p + 1 + 1) (x.2 ++ (⟨#[49]⟩ : ByteArray)) w2 Hr2.out (by omega) (by omega) (by omega)
    have Hb1 := Lib.hid hb1
    clear hb1 hxk
    go_wp2_with fail
    refine Hb1.out.mono ?_
    rintro e w3 ⟨s', rfl, hs', hd3⟩
    have HC3 := Lib.hid (HC2.out.draw hd3.grown)
    have ho3 := own_past Ho2.out hR hd3.grown
    have hcB3 : w3.cell? ⟨g, k * 2 + 1, none⟩ = some (.string x.2) := (ho3.cellAt _ (by omega)).trans (cs2_get (f := ltf) Hxk.out).2
    have hfz3 : w3.frozen? ⟨g, k * 2 + 1, none⟩ = false := ho3.frozenAt _
    have hst := ho3.stored (k * 2 + 1) (.string s')
    rw [lcs_set2 Hxk.out] at hst
    have Hst := Lib.hid hst
    have Hr3 := Lib.hid hd3.reader
    clear hst ho3 hd3 Hb1 Ho2 HC2 hcB
    go_wp2_with fail
    go_ret
    refine ⟨_, xs.set k (x.1, s'), p + 1 + 1 + 1, rfl, by rw [List.length_set]; exact Hst.out.1, by rw [List.length_set]; omega, set_sizes Hsz.out hs', by omega, ?_, ?_⟩
    · have hg := Hst.out.2
      exact Hr3.out.upto (B := B) ⟨hg.os, hg.tape, hg.output, hg.size, fun j hj => hg.block j (by have := HC3.out.size; omega) (fun e => by injection e with e; have := (Hst.out.1.lt g rfl).1; omega)⟩ hR
    · exact HC3.out.row (by simpa [Value.ownBlock] using Hst.out.2) Hbr.out
  have e1 : ((m : Int) == 0) = false := by simp only [beq_eq_false_iff_ne]; omega
  by_cases h1 : m = 1
  · subst h1
    have h0l : 0 < xs.length := by omega
    obtain ⟨x0, hx0⟩ : ∃ x0, xs[0]? = some x0 := ⟨_, List.getElem?_eq_getElem h0l⟩
    have hcA : w2.cell? ⟨g, 0, none⟩ = some (.int .i64 x0.1) := (Ho2.out.cellAt _ (by omega)).trans (by have := (cs2_get (f := ltf) hx0).1; simpa [ltf] using this)
    have hn1 := num_lit R (p + 1 + 1) w2.heap.size 5 #[.int .i64 0, .int .i64 10000, .int .i64 9999, .int .i64 (-1), .int .i64 x0.1] [0, 10000, 9999, -1, x0.1] w2 Hr2.out (by omega) rfl rfl rfl (by simp) (by simp)
    have Hn1 := Lib.hid hn1
    clear hn1 hxk hx0
    go_wp2_with fail
    refine Hn1.out.mono ?_
    rintro e w3 ⟨y, rfl, hy, hr3, hg3⟩
    have HC3 := Lib.hid (HC2.out.draw hg3)
    have ho3 := own_past Ho2.out hR hg3
    have hcA3 : w3.cell? ⟨g, k * 2, none⟩ = some (.int .i64 x.1) := (ho3.cellAt _ (by omega)).trans (cs2_get (f := ltf) Hxk.out).1
    have hfz3 : w3.frozen? ⟨g, k * 2, none⟩ = false := ho3.frozenAt _
    have hst := ho3.stored (k * 2) (.int .i64 y)
    rw [lcs_set1 Hxk.out] at hst
    have Hst := Lib.hid hst
    have Hr3 := Lib.hid hr3
    clear hst ho3 hr3 hg3 Hn1 Ho2 HC2 hcA hy
    go_wp2_with fail
    go_ret
    refine ⟨_, xs.set k (y, x.2), p + 1 + 1 + 1, rfl, by rw [List.length_set]; exact Hst.out.1, by rw [List.length_set]; omega, set_sizes Hsz.out (by show x.2.size ≤ 101; omega), by omega, ?_, ?_⟩
    · have hg := Hst.out.2
      exact Hr3.out.upto (B := B) ⟨hg.os, hg.tape, hg.output, hg.size, fun j hj => hg.block j (by have := HC3.out.size; omega) (fun e => by injection e with e; have := (Hst.out.1.lt g rfl).1; omega)⟩ hR
    · exact HC3.out.row (by simpa [Value.ownBlock] using Hst.out.2) Hbr.out
  have e2 : ((m : Int) == 1) = false := by simp only [beq_eq_false_iff_ne]; omega
  by_cases h2 : m = 2
  · subst h2
    have Hw := Lib.hid (Nat.le_trans hB HC2.out.size)
    have H0 : Hid (∀ g', (Value.slice (some ⟨g, 0, none⟩) xs.length c).ownBlock = some g' → some g' = b ∨ w.heap.size ≤ g') := Lib.hid fun g' e => Hbr.out g' e
    clear hxk
    go_wp2_with fail
    go_loopw [1] (fun bv wr => ∃ (ys : List Ltr) (u0 : Value), u0 = bv ∧ ys.length ≤ 61 ∧ Hid (wr.ownsRow B 35 2 u0 ys.length (lcs ys)) ∧ Hid (∀ y ∈ ys, y.2.size ≤ 101) ∧ Hid (Reader wr R (p + 1 + 1)) ∧ Hid (Chg w wr R b) ∧ Hid (∀ g', u0.ownBlock = some g' → some g' = b ∨ w.heap.size ≤ g') ∧ (∃ C cp, u0 = .slice C ys.length cp)) (fun bv _ => 61 - slLen bv)
    case atStart => exact ⟨xs, _, rfl, by omega, Ho2, Hsz, Hr2, HC2, H0, _, _, rfl⟩
    case round =>
      obtain ⟨ys, u0, rfl, hyl, Ho, Hs, Hr, HC, Hb, C, cp, rfl⟩ := hrel
      clear Ho2 Hsz Hr2 HC2 H0
      by_cases hlt : ys.length < 61
      · have hlt' : (ys.length : Int) < 61 := by omega
        obtain ⟨y, hy⟩ : ∃ y : Ltr, y = ((1000 : Int) + (ys.length : Int), (⟨#[49, 50, 48, 48, 49, 48, 49]⟩ : ByteArray)) := ⟨_, rfl⟩
        have hbl : Below wr.heap.size wr (wr.alloc (.cells #[.int .i64 ((1000 : Int) + (ys.length : Int)), .string ⟨#[49, 50, 48, 48, 49, 48, 49]⟩] 35)) := (Below.refl _ _).alloc (Nat.le_refl _) _
        have Ho4 := Lib.hid (own_below Ho.out hbl)
        have HC4 := Lib.hid (HC.out.below hbl)
        have Hr4 := Lib.hid (Hr.out.below hbl)
        have hnw : Rd (wr.alloc (.cells #[.int .i64 ((1000 : Int) + (ys.length : Int)), .string ⟨#[49, 50, 48, 48, 49, 48, 49]⟩] 35)) (some ⟨wr.heap.size, 0, none⟩) (lcs [y]) := by subst hy; exact rd_new wr (lcs [((1000 : Int) + (ys.length : Int), (⟨#[49, 50, 48, 48, 49, 48, 49]⟩ : ByteArray))]) 35
        have Hnw := Lib.hid hnw
        have Hy := Lib.hid hy
        have Hw4 : Hid (B ≤ (wr.alloc (.cells #[.int .i64 ((1000 : Int) + (ys.length : Int)), .string ⟨#[49, 50, 48, 48, 49, 48, 49]⟩] 35)).heap.size) := Lib.hid (Nat.le_trans hB HC4.out.size)
        clear hnw hbl hy Ho HC Hr
        go_wp2_with (at_builtin; refine wpList_append_rd rfl (.tmp 48) (.tmp 53) 33 rfl ltr_elem (base := B) (.slice C ys.length cp) ys.length (lcs ys) rfl Ho4.out (some ⟨wr.heap.size, 0, none⟩) 1 1 (lcs [y]) rfl rfl Hnw.out (lcs_oneCell _) (by unfold maxLen; omega) (by omega) Hw4.out ?_; intro v5 w5 hown5 hg5 hm5)
        have Ho5 : Hid (w5.ownsRow B 35 2 v5 (ys ++ [y]).length (lcs (ys ++ [y]))) := Lib.hid (by rw [List.length_append, show lcs (ys ++ [y]) = lcs ys ++ lcs [y] from cs2_append _ _]; exact hown5)
        have HC5 := Lib.hid (HC4.out.row hg5 Hb.out)
        have Hr5 := Lib.hid (Hr4.out.upto (B := B) ⟨hg5.os, hg5.tape, hg5.output, hg5.size, fun j hj => hg5.block j (by have := Hw4.out; omega) (fun e => by have := (Ho4.out.lt j e.symm).1; omega)⟩ hR)
        have Hb5 : Hid (∀ g', v5.ownBlock = some g' → some g' = b ∨ w.heap.size ≤ g') := Lib.hid fun g' e => by
          rcases hm5 with h5 | h5
          · exact Hb.out g' (h5 ▸ e)
          · rw [h5] at e; injection e with e; right; rw [← e]; exact HC4.out.size
        have Hs5 : Hid (∀ z ∈ ys ++ [y], z.2.size ≤ 101) := Lib.hid fun z hz => by
          rcases List.mem_append.1 hz with h | h
          · exact Hs.out z h
          · simp at h; subst h; rw [Hy.out]; show (7 : Nat) ≤ 101; omega
        have hl5 : (ys ++ [y]).length = ys.length + 1 := by simp
        obtain ⟨C5, cp5, rfl, _, _, _, _⟩ := own_form Ho5.out
        clear hown5 hg5 hm5 Ho4 HC4 Hnw Hs Hr4
        go_roundw
        case rel => exact ⟨_, _, rfl, by omega, Ho5, Hs5, Hr5, HC5, Hb5, _, _, rfl⟩
        case measure => simp [slLen]; omega
      · have hlt' : ¬ (ys.length : Int) < 61 := by omega
        go_wp2_with fail
        go_ret
        exact ⟨_, rfl, ys, Ho.out, hyl, fun a b h => Hs.out (a, b) h, p + 1 + 1, by omega, Hr.out, HC.out⟩
  have e3 : ((m : Int) == 2) = false := by simp only [beq_eq_false_iff_ne]; omega
  clear hxk
  go_wp2_with fail
  go_ret
  exact ⟨_, xs, p + 1 + 1, rfl, Ho2.out, by omega, Hsz.out, by omega, Hr2.out, HC2.out⟩

end Go.Proofs.YtfhnjpjlpddpmaaDoor
