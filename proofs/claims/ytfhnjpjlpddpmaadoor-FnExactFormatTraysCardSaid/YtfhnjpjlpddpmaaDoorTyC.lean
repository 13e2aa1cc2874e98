
/- The words and contracts of the walks of exact laws, all of one form: letters and trays. -/
import Derived.Test.YtfhnjpjlpddpmaaDoorTy4
namespace Go.Proofs.YtfhnjpjlpddpmaaDoor
open Go.RowKit
set_option linter.unusedVariables false

abbrev IL := Lt
def OL (w : World) (lo hi : Nat) (v : Value) (xs : List Ltr) : Prop := Own w lo hi 35 2 v xs.length (lcs xs)
abbrev SzL := Szs
def cntL (xs : List Ltr) : Nat := xs.length
structure SmL (xs : List Ltr) : Prop where
  len : xs.length ≤ 1048576
theorem SmL.cnt {xs : List Ltr} (h : SmL xs) : cntL xs ≤ 1048576 := h.len
theorem Own.in_ {w : World} {lo hi : Nat} {e : TypeId} {size : Nat} {v : Value} {n : Nat} {cs : List Value} (h : Own w lo hi e size v n cs) : Sl w v n cs := h.sl
theorem OL.in_ {w : World} {lo hi : Nat} {v : Value} {xs : List Ltr} (h : OL w lo hi v xs) : IL w v xs := Own.sl h
theorem OL.below {w w' : World} {lo hi : Nat} {v : Value} {xs : List Ltr} (h : OL w lo hi v xs) (hb : Below w.heap.size w w') : OL w' lo hi v xs := Own.below h hb
theorem OL.only {w w' : World} {lo hi lo' hi' : Nat} {v : Value} {xs : List Ltr} (h : OL w lo hi v xs) (hb : Only w w' lo' hi') (hd : hi ≤ lo' ∨ hi' ≤ lo) : OL w' lo hi v xs := Own.only h hb hd
theorem toL_c (v : Value) (xs : List Ltr) (w : World) (h : IL w v xs) (hs : SmL xs) :
    Calls Tryd.prog 18 #[v] w fun e w' => ∃ u, e = .returned u ∧ OL w' w.heap.size w'.heap.size u xs ∧ Below w.heap.size w w' := toL v xs w h hs.len
theorem eqL_c (v u : Value) (xs : List Ltr) (w : World) (h : IL w v xs) (hu : IL w u xs) :
    Calls Tryd.prog 21 #[v, u] w fun e w' => e = .returned (.bool true) ∧ Below w.heap.size w w' :=
  (eqL v u xs xs w h hu).mono fun e w' ⟨he, hb⟩ => ⟨by rw [he, decide_eq_true rfl], hb⟩
theorem szL_c (v : Value) (xs : List Ltr) (left : Int) (w : World) (h : IL w v xs) (hs : SzL xs) (h0 : 0 ≤ left) (h1 : left ≤ 1048576) :
    Calls Tryd.prog 13 #[v, .int .i64 left] w fun e w' => (∃ z : Int, e = .returned (.int .i64 z) ∧ -1 ≤ z ∧ z ≤ left ∧ (0 ≤ z → SmL xs)) ∧ Below w.heap.size w w' :=
  (szL v xs left w h hs h0 h1).mono fun e w' ⟨⟨z, he, a, b, c⟩, hb⟩ => ⟨⟨z, he, a, b, fun hz => ⟨by have := c hz; omega⟩⟩, hb⟩
abbrev ILL := LtS
def SzLL (xss : List (List Ltr)) : Prop := ∀ xs ∈ xss, ∀ x ∈ xs, x.2.size ≤ maxLen
def cntLL (xss : List (List Ltr)) : Nat := xss.flatten.length
structure SmLL (xss : List (List Ltr)) : Prop where
  len : xss.length ≤ 1048576
  each : ∀ xs ∈ xss, xs.length ≤ 1048576
  flat : xss.flatten.length ≤ 1048576
theorem SmLL.cnt {xss : List (List Ltr)} (h : SmLL xss) : cntLL xss ≤ 1048576 := h.flat
theorem OLL.in_ {w : World} {lo hi : Nat} {v : Value} {xs : List (List Ltr)} (h : OLL w lo hi v xs) : ILL w v xs := h.lts
theorem smLL_of {xss : List (List Ltr)} (h : (xss.length : Int) + szss xss ≤ 1048576) : SmLL xss := by
  have key : ∀ l : List (List Ltr), l.flatten.length ≤ szss l ∧ ∀ xs ∈ l, xs.length ≤ szss l := by
    intro l
    induction l with
    | nil => simp [szss]
    | cons x l ih =>
      have e : szss (x :: l) = (x.length + szs x) + szss l := by simp [szss]
      refine ⟨by rw [List.flatten_cons, List.length_append, e]; omega, fun xs hx => ?_⟩
      rcases List.mem_cons.1 hx with rfl | hx
      · omega
      · have := ih.2 xs hx; omega
  obtain ⟨h1, h2⟩ := key xss
  exact ⟨by omega, fun xs hx => by have := h2 xs hx; omega, by omega⟩
theorem toLL_c (v : Value) (xs : List (List Ltr)) (w : World) (h : ILL w v xs) (hs : SmLL xs) :
    Calls Tryd.prog 7 #[v] w fun e w' => ∃ u, e = .returned u ∧ OLL w' w.heap.size w'.heap.size u xs ∧ Below w.heap.size w w' := toLL v xs w h hs.len hs.each
theorem eqLL_c (v u : Value) (xs : List (List Ltr)) (w : World) (h : ILL w v xs) (hu : ILL w u xs) :
    Calls Tryd.prog 9 #[v, u] w fun e w' => e = .returned (.bool true) ∧ Below w.heap.size w w' :=
  (eqLL v u xs xs w h hu).mono fun e w' ⟨he, hb⟩ => ⟨by rw [he, decide_eq_true rfl], hb⟩
theorem szLL_c (v : Value) (xs : List (List Ltr)) (left : Int) (w : World) (h : ILL w v xs) (hs : SzLL xs) (h0 : 0 ≤ left) (h1 : left ≤ 1048576) :
    Calls Tryd.prog 5 #[v, .int .i64 left] w fun e w' => (∃ z : Int, e = .returned (.int .i64 z) ∧ -1 ≤ z ∧ z ≤ left ∧ (0 ≤ z → SmLL xs)) ∧ Below w.heap.size w w' :=
  (szLL v xs left w h hs h0 h1).mono fun e w' ⟨⟨z, he, a, b, c⟩, hb⟩ => ⟨⟨z, he, a, b, fun hz => smLL_of (by have := c hz; omega)⟩, hb⟩
end Go.Proofs.YtfhnjpjlpddpmaaDoor
