
/- The words and contracts of the walks of exact laws, all of one form: rules. -/
import Derived.Test.YtkfbgoahppfelaaNt2
namespace Go.Proofs.Ytkfbgoahppfelaa
open Go.RowKit
set_option linter.unusedVariables false

def Szr (xs : List Rul) : Prop := ∀ x ∈ xs, x.1.size ≤ maxLen ∧ x.2.size ≤ maxLen
abbrev IR := Rt
def OR (w : World) (lo hi : Nat) (v : Value) (xs : List Rul) : Prop := Own w lo hi 31 2 v xs.length (rcs xs)
abbrev SzR := Szr
def cntR (xs : List Rul) : Nat := xs.length
structure SmR (xs : List Rul) : Prop where
  len : xs.length ≤ 1048576
  bytes : szs xs ≤ 1048576
theorem SmR.cnt {xs : List Rul} (h : SmR xs) : cntR xs ≤ 1048576 := h.len
theorem Own.in_ {w : World} {lo hi : Nat} {e : TypeId} {size : Nat} {v : Value} {n : Nat} {cs : List Value} (h : Own w lo hi e size v n cs) : Sl w v n cs := h.sl
theorem OR.in_ {w : World} {lo hi : Nat} {v : Value} {xs : List Rul} (h : OR w lo hi v xs) : IR w v xs := Own.sl h
theorem OR.below {w w' : World} {lo hi : Nat} {v : Value} {xs : List Rul} (h : OR w lo hi v xs) (hb : Below w.heap.size w w') : OR w' lo hi v xs := Own.below h hb
theorem OR.only {w w' : World} {lo hi lo' hi' : Nat} {v : Value} {xs : List Rul} (h : OR w lo hi v xs) (hb : Only w w' lo' hi') (hd : hi ≤ lo' ∨ hi' ≤ lo) : OR w' lo hi v xs := Own.only h hb hd
end Go.Proofs.Ytkfbgoahppfelaa
