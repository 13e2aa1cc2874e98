
/- The walk of what spoils trays (l5Bad). -/
import Derived.Test.YtaadjjadpacclaaTyDrawD
import Derived.Test.YtaadjjadpacclaaTyDrawT
import Derived.Test.YtaadjjadpacclaaTyFill
namespace Go.Proofs.Ytaadjjadpacclaa
open Go.RowKit
set_option linter.unusedVariables false

theorem SlRows.snoc {β : Type} {F : World → Value → β → Prop} {w : World} {us : List Value} {xss : List β} (h : SlRows F w us xss) {u : Value} {x : β} (hu : F w u x) : SlRows F w (us ++ [u]) (xss ++ [x]) := by
  refine ⟨by simp [h.len], fun i v y h1 h2 => ?_⟩
  have hl := h.len
  rcases Nat.lt_or_ge i us.length with hi | hi
  · rw [List.getElem?_append_left hi] at h1
    rw [List.getElem?_append_left (by omega)] at h2
    exact h.row i v y h1 h2
  · have := (List.getElem?_eq_some_iff.1 h1).1
    simp at this
    have e1 : i = us.length := by omega
    subst e1
    simp at h1
    rw [hl] at h2
    simp at h2
    subst h1 h2
    exact hu
/-- Trays that may share rows, all in blocks from B on. -/
abbrev RowB (B : Nat) (w : World) (u : Value) (xs : List Ltr) : Prop := w.ownsRow B 31 2 u xs.length (lcs xs)
def LtB (w : World) (B : Nat) (v : Value) (xss : List (List Ltr)) : Prop := ∃ us, w.ownsRow B 23 1 v us.length us ∧ SlRows (RowB B) w us xss
theorem LtB.lts {w : World} {B : Nat} {v : Value} {xss : List (List Ltr)} (h : LtB w B v xss) : LtS w v xss := by
  obtain ⟨us, h1, h2⟩ := h
  exact ⟨us, sl_own h1, h2.len, fun i u xs a b => sl_own (h2.row i u xs a b)⟩
theorem LtB.past {w w' : World} {B R : Nat} {v : Value} {xss : List (List Ltr)} (h : LtB w B v xss) (hR : R < B) (hg : w.grownBy w' (some R)) : LtB w' B v xss := by
  obtain ⟨us, h1, h2⟩ := h
  exact ⟨us, own_past h1 hR hg, h2.len, fun i u xs a b => own_past (h2.row i u xs a b) hR hg⟩
/-- Rows of the call's own behind a change that is none of theirs. -/
theorem rows_sl {w w' : World} {lo hi : Nat} {us : List Value} {xss : List (List Ltr)} (h : RowsL w lo hi us xss) (hk : ∀ u xs, Own w lo hi 31 2 u xs.length (lcs xs) → w'.ownsRow lo 31 2 u xs.length (lcs xs)) : SlRows (RowB lo) w' us xss :=
  ⟨h.len, fun i u xs h1 h2 => hk u xs (h.row i u xs h1 h2)⟩
theorem below_trans_row {B : Nat} {w1 wa w5 : World} {row : Option Nat} (hb : Below w1.heap.size w1 wa) (hg : wa.grownBy w5 row) (hB : B ≤ w1.heap.size) (hr : ∀ g, row = some g → B ≤ g) : Below B w1 w5 :=
  ⟨hg.os.trans hb.os, hg.tape.trans hb.tape, hg.output.trans hb.output, Nat.le_trans hb.size hg.size, fun k hk => (hg.block k (by have := hb.size; omega) (fun e => by have := hr k e.symm; omega)).trans (hb.block k (by omega))⟩
theorem dst_upto {w0 w1 w5 : World} {R q B : Nat} (hd : Dst w0 R q w1) (hb : Below B w1 w5) (hB : w0.heap.size ≤ B) (hr : Reader w5 R q) : Dst w0 R q w5 :=
  ⟨⟨hb.os.trans hd.grown.os, hb.tape.trans hd.grown.tape, hb.output.trans hd.grown.output, Nat.le_trans hd.grown.size hb.size, fun k hk hR => (hb.block k (by omega)).trans (hd.grown.block k hk hR)⟩, hr⟩

end Go.Proofs.Ytaadjjadpacclaa
