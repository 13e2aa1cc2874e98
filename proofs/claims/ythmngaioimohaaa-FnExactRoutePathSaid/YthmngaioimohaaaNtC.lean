
/- The words and contracts of the walks of exact laws, all of one form: rules. -/
import Derived.Test.YthmngaioimohaaaNt2
namespace Go.Proofs.Ythmngaioimohaaa
open Go.RowKit
set_option linter.unusedVariables false

def Szr (xs : List Rul) : Prop := ∀ x ∈ xs, x.1.size ≤ maxLen ∧ x.2.size ≤ maxLen
abbrev IR := Rt
def OR (w : World) (lo hi : Nat) (v : Value) (xs : List Rul) : Prop := Own w lo hi 50 2 v xs.length (rcs xs)
abbrev SzR := Szr
def cntR (xs : List Rul) : Nat := xs.length
structure SmR (xs : List Rul) : Prop where
  len : xs.length ≤ 1048576
  bytes : szs xs ≤ 1048576
theorem SmR.cnt {xs : List Rul} (h : SmR xs) : cntR xs ≤ 1048576 := h.len
theorem Own.in_ {w : World} {lo hi : Nat} {e : TypeId} {size : Nat} {v : Value} {n : Nat} {cs : List Value} (h : Own w lo hi e size v n cs) : Sl w v n cs := h.sl
theorem OR.in_ {w : World} {lo hi : Nat} {v : Value} {xs : List Rul} (h : OR w lo hi v xs) : IR w v xs := Own.sl h
theorem OR.below {w w' : World} {lo hi : Nat} {v : Value} {xs : List Rul} (h : OR w lo hi v xs) (hb : Below w.heap.size w w') : OR w' lo hi v xs := Own.below h hb
theorem OR.only {w w' : World} {lo hi lo' hi' : Nat} {v : Value} {xs : List Rul} (h : OR w lo hi v xs) (hb : Only w w' lo' hi') (hd : hi ≤ lo' ∨ hi' ≤ lo) : OR w' lo hi v xs := Own.only h hb hd
theorem toR_c (v : Value) (xs : List Rul) (w : World) (h : IR w v xs) (hs : SmR xs) :
    Calls Try.prog 44 #[v] w fun e w' => ∃ u, e = .returned u ∧ OR w' w.heap.size w'.heap.size u xs ∧ Below w.heap.size w w' := toR v xs w h hs.len
theorem eqR_c (v u : Value) (xs : List Rul) (w : World) (h : IR w v xs) (hu : IR w u xs) :
    Calls Try.prog 47 #[v, u] w fun e w' => e = .returned (.bool true) ∧ Below w.heap.size w w' :=
  (eqR v u xs xs w h hu).mono fun e w' ⟨he, hb⟩ => ⟨by rw [he, decide_eq_true rfl], hb⟩
theorem szR_c (v : Value) (xs : List Rul) (left : Int) (w : World) (h : IR w v xs) (hs : SzR xs) (h0 : 0 ≤ left) (h1 : left ≤ 1048576) :
    Calls Try.prog 41 #[v, .int .i64 left] w fun e w' => (∃ z : Int, e = .returned (.int .i64 z) ∧ -1 ≤ z ∧ z ≤ left ∧ (0 ≤ z → SmR xs)) ∧ Below w.heap.size w w' :=
  (szR v xs left w h hs h0 h1).mono fun e w' ⟨⟨z, he, a, b, c⟩, hb⟩ => ⟨⟨z, he, a, b, fun hz => ⟨by have := c hz; omega, by have := c hz; omega⟩⟩, hb⟩
theorem markR_c (v : Value) (xs : List Rul) (lo hi : Nat) (x0 : Int) (k0 : Nat) (hx0 : x0 = (k0 : Int)) (w : World) (h : OR w lo hi v xs) (hs : SmR xs) (h1 : k0 ≤ 1000000000) :
    Calls Try.prog 40 #[v, .int .i64 x0] w fun e w' => e = .returned (.int .i64 ((k0 : Int) + 2 * (cntR xs : Int))) ∧ OR w' lo hi v (mkR k0 xs.length) ∧ Only w w' lo hi :=
  (markR v lo xs x0 k0 hx0 w h.row hs.len (by omega)).mono fun e w' ⟨he, ho, hg⟩ => ⟨he, ⟨by rw [mkR_length]; exact ho, h.top⟩, Only.grown hg fun g e => ⟨(h.row.lt g e).1, h.top g e⟩⟩
end Go.Proofs.Ythmngaioimohaaa
