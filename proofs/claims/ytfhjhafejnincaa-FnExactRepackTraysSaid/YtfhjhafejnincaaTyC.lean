/- The words and contracts of the walks of exact laws, all of one form: letters and trays. -/
import Derived.Test.YtfhjhafejnincaaTy4
namespace Go.Proofs.Ytfhjhafejnincaa
open Go.RowKit
set_option linter.unusedVariables false

abbrev IL := Lt
def OL (w : World) (lo hi : Nat) (v : Value) (xs : List Ltr) : Prop := Own w lo hi 38 2 v xs.length (lcs xs)
abbrev SzL := Szs
def cntL (xs : List Ltr) : Nat := xs.length
structure SmL (xs : List Ltr) : Prop where
  len : xs.length ≤ 1048576
theorem SmL.cnt {xs : List Ltr} (h : SmL xs) : cntL xs ≤ 1048576 := h.len
theorem Own.in_ {w : World} {lo hi : Nat} {e : TypeId} {size : Nat} {v : Value} {n : Nat} {cs : List Value} (h : Own w lo hi e size v n cs) : Sl w v n cs := h.sl
theorem OL.in_ {w : World} {lo hi : Nat} {v : Value} {xs : List Ltr} (h : OL w lo hi v xs) : IL w v xs := Own.sl h
theorem OL.below {w w' : World} {lo hi : Nat} {v : Value} {xs : List Ltr} (h : OL w lo hi v xs) (hb : Below w.heap.size w w') : OL w' lo hi v xs := Own.below h hb
theorem OL.only {w w' : World} {lo hi lo' hi' : Nat} {v : Value} {xs : List Ltr} (h : OL w lo hi v xs) (hb : Only w w' lo' hi') (hd : hi ≤ lo' ∨ hi' ≤ lo) : OL w' lo hi v xs := Own.only h hb hd
theorem toL_c (v : Value) (xs : List Ltr) (w : World) (h : IL w v xs) (hs : SmL xs) :
    Calls Try.prog 24 #[v] w fun e w' => ∃ u, e = .returned u ∧ OL w' w.heap.size w'.heap.size u xs ∧ Below w.heap.size w w' := toL v xs w h hs.len
theorem eqL_c (v u : Value) (xs : List Ltr) (w : World) (h : IL w v xs) (hu : IL w u xs) :
    Calls Try.prog 26 #[v, u] w fun e w' => e = .returned (.bool true) ∧ Below w.heap.size w w' :=
  (eqL v u xs xs w h hu).mono fun e w' ⟨he, hb⟩ => ⟨by rw [he, decide_eq_true rfl], hb⟩
theorem szL_c (v : Value) (xs : List Ltr) (left : Int) (w : World) (h : IL w v xs) (hs : SzL xs) (h0 : 0 ≤ left) (h1 : left ≤ 1048576) :
    Calls Try.prog 22 #[v, .int .i64 left] w fun e w' => (∃ z : Int, e = .returned (.int .i64 z) ∧ -1 ≤ z ∧ z ≤ left ∧ (0 ≤ z → SmL xs)) ∧ Below w.heap.size w w' :=
  (szL v xs left w h hs h0 h1).mono fun e w' ⟨⟨z, he, a, b, c⟩, hb⟩ => ⟨⟨z, he, a, b, fun hz => ⟨by have := c hz; omega⟩⟩, hb⟩
theorem markL_c (v : Value) (xs : List Ltr) (lo hi : Nat) (x0 : Int) (k0 : Nat) (hx0 : x0 = (k0 : Int)) (w : World) (h : OL w lo hi v xs) (hs : SmL xs) (h1 : k0 ≤ 1000000000) :
    Calls Try.prog 37 #[v, .int .i64 x0] w fun e w' => e = .returned (.int .i64 ((k0 : Int) + 2 * (cntL xs : Int))) ∧ OL w' lo hi v (mkL k0 xs.length) ∧ Only w w' lo hi :=
  (markL v lo xs x0 k0 hx0 w h.row hs.len (by omega)).mono fun e w' ⟨he, ho, hg⟩ => ⟨he, ⟨by rw [mkL_length]; exact ho, h.top⟩, Only.grown hg fun g e => ⟨(h.row.lt g e).1, h.top g e⟩⟩
theorem heldL_c (v : Value) (xs : List Ltr) (x0 : Int) (k0 : Nat) (hx0 : x0 = (k0 : Int)) (w : World) (h : IL w v (mkL k0 xs.length)) (hs : SmL xs) (h1 : k0 ≤ 1000000000) :
    Calls Try.prog 46 #[v, .int .i64 x0] w fun e w' => e = .returned (.int .i64 ((k0 : Int) + 2 * (cntL xs : Int))) ∧ Below w.heap.size w w' :=
  heldL v xs.length x0 k0 hx0 w (by have := h; unfold IL Lt at this; rwa [mkL_length] at this) hs.len (by omega)

abbrev ILL := LtS
def SzLL (xss : List (List Ltr)) : Prop := ∀ xs ∈ xss, ∀ x ∈ xs, x.2.size ≤ maxLen
def cntLL (xss : List (List Ltr)) : Nat := xss.flatten.length
structure SmLL (xss : List (List Ltr)) : Prop where
  len : xss.length ≤ 1048576
  each : ∀ xs ∈ xss, xs.length ≤ 1048576
  flat : xss.flatten.length ≤ 1048576
theorem SmLL.cnt {xss : List (List Ltr)} (h : SmLL xss) : cntLL xss ≤ 1048576 := h.flat
theorem OLL.in_ {w : World} {lo hi : Nat} {v : Value} {xs : List (List Ltr)} (h : OLL w lo hi v xs) : ILL w v xs := h.lts
theorem smLL_of {xss : List (List Ltr)} (h : (xss.length : Int) + szss xss ≤ 1048576) : SmLL xss := by
  have key : ∀ l : List (List Ltr), l.flatten.length ≤ szss l ∧ ∀ xs ∈ l, xs.length ≤ szss l := by
    intro l
    induction l with
    | nil => simp [szss]
    | cons x l ih =>
      have e : szss (x :: l) = (x.length + szs x) + szss l := by simp [szss]
      refine ⟨by rw [List.flatten_cons, List.length_append, e]; omega, fun xs hx => ?_⟩
      rcases List.mem_cons.1 hx with rfl | hx
      · omega
      · have := ih.2 xs hx; omega
  obtain ⟨h1, h2⟩ := key xss
  exact ⟨by omega, fun xs hx => by have := h2 xs hx; omega, by omega⟩
theorem toLL_c (v : Value) (xs : List (List Ltr)) (w : World) (h : ILL w v xs) (hs : SmLL xs) :
    Calls Try.prog 32 #[v] w fun e w' => ∃ u, e = .returned u ∧ OLL w' w.heap.size w'.heap.size u xs ∧ Below w.heap.size w w' := toLL v xs w h hs.len hs.each
theorem eqLL_c (v u : Value) (xs : List (List Ltr)) (w : World) (h : ILL w v xs) (hu : ILL w u xs) :
    Calls Try.prog 34 #[v, u] w fun e w' => e = .returned (.bool true) ∧ Below w.heap.size w w' :=
  (eqLL v u xs xs w h hu).mono fun e w' ⟨he, hb⟩ => ⟨by rw [he, decide_eq_true rfl], hb⟩
theorem szLL_c (v : Value) (xs : List (List Ltr)) (left : Int) (w : World) (h : ILL w v xs) (hs : SzLL xs) (h0 : 0 ≤ left) (h1 : left ≤ 1048576) :
    Calls Try.prog 30 #[v, .int .i64 left] w fun e w' => (∃ z : Int, e = .returned (.int .i64 z) ∧ -1 ≤ z ∧ z ≤ left ∧ (0 ≤ z → SmLL xs)) ∧ Below w.heap.size w w' :=
  (szLL v xs left w h hs h0 h1).mono fun e w' ⟨⟨z, he, a, b, c⟩, hb⟩ => ⟨⟨z, he, a, b, fun hz => smLL_of (by have := c hz; omega)⟩, hb⟩
theorem markLL_c (v : Value) (xs : List (List Ltr)) (lo hi : Nat) (x0 : Int) (k0 : Nat) (hx0 : x0 = (k0 : Int)) (w : World) (h : OLL w lo hi v xs) (hs : SmLL xs) (h1 : k0 ≤ 1000000000) :
    Calls Try.prog 38 #[v, .int .i64 x0] w fun e w' => e = .returned (.int .i64 ((k0 : Int) + 2 * (cntLL xs : Int))) ∧ OLL w' lo hi v (mkLL k0 xs) ∧ Only w w' lo hi :=
  markLL v lo hi xs x0 k0 hx0 w h hs.len hs.each hs.flat h1
theorem heldLL_c (v : Value) (xs : List (List Ltr)) (x0 : Int) (k0 : Nat) (hx0 : x0 = (k0 : Int)) (w : World) (h : ILL w v (mkLL k0 xs)) (hs : SmLL xs) (h1 : k0 ≤ 1000000000) :
    Calls Try.prog 39 #[v, .int .i64 x0] w fun e w' => e = .returned (.int .i64 ((k0 : Int) + 2 * (cntLL xs : Int))) ∧ Below w.heap.size w w' :=
  heldLL v xs x0 k0 hx0 w h hs.len hs.each hs.flat h1

end Go.Proofs.Ytfhjhafejnincaa
