
/- The words and contracts of the walks of exact laws, all of one form: rules. -/
import Derived.Test.YtebplaaneeekdaaDoorNt2
namespace Go.Proofs.YtebplaaneeekdaaDoor
open Go.RowKit
set_option linter.unusedVariables false

def Szr (xs : List Rul) : Prop := ∀ x ∈ xs, x.1.size ≤ maxLen ∧ x.2.size ≤ maxLen
abbrev IR := Rt
def OR (w : World) (lo hi : Nat) (v : Value) (xs : List Rul) : Prop := Own w lo hi 32 2 v xs.length (rcs xs)
abbrev SzR := Szr
def cntR (xs : List Rul) : Nat := xs.length
structure SmR (xs : List Rul) : Prop where
  len : xs.length ≤ 1048576
  bytes : szs xs ≤ 1048576
theorem SmR.cnt {xs : List Rul} (h : SmR xs) : cntR xs ≤ 1048576 := h.len
theorem Own.in_ {w : World} {lo hi : Nat} {e : TypeId} {size : Nat} {v : Value} {n : Nat} {cs : List Value} (h : Own w lo hi e size v n cs) : Sl w v n cs := h.sl
theorem OR.in_ {w : World} {lo hi : Nat} {v : Value} {xs : List Rul} (h : OR w lo hi v xs) : IR w v xs := Own.sl h
theorem OR.below {w w' : World} {lo hi : Nat} {v : Value} {xs : List Rul} (h : OR w lo hi v xs) (hb : Below w.heap.size w w') : OR w' lo hi v xs := Own.below h hb
theorem OR.only {w w' : World} {lo hi lo' hi' : Nat} {v : Value} {xs : List Rul} (h : OR w lo hi v xs) (hb : Only w w' lo' hi') (hd : hi ≤ lo' ∨ hi' ≤ lo) : OR w' lo hi v xs := Own.only h hb hd
theorem eqR_c (v u : Value) (xs : List Rul) (w : World) (h : IR w v xs) (hu : IR w u xs) :
    Calls Tryd.prog 6 #[v, u] w fun e w' => e = .returned (.bool true) ∧ Below w.heap.size w w' :=
  (eqR v u xs xs w h hu).mono fun e w' ⟨he, hb⟩ => ⟨by rw [he, decide_eq_true rfl], hb⟩
theorem markR_c (v : Value) (xs : List Rul) (lo hi : Nat) (x0 : Int) (k0 : Nat) (hx0 : x0 = (k0 : Int)) (w : World) (h : OR w lo hi v xs) (hs : SmR xs) (h1 : k0 ≤ 1000000000) :
    Calls Tryd.prog 7 #[v, .int .i64 x0] w fun e w' => e = .returned (.int .i64 ((k0 : Int) + 2 * (cntR xs : Int))) ∧ OR w' lo hi v (mkR k0 xs.length) ∧ Only w w' lo hi :=
  (markR v lo xs x0 k0 hx0 w h.row hs.len (by omega)).mono fun e w' ⟨he, ho, hg⟩ => ⟨he, ⟨by rw [mkR_length]; exact ho, h.top⟩, Only.grown hg fun g e => ⟨(h.row.lt g e).1, h.top g e⟩⟩
theorem heldR_c (v : Value) (xs : List Rul) (x0 : Int) (k0 : Nat) (hx0 : x0 = (k0 : Int)) (w : World) (h : IR w v (mkR k0 xs.length)) (hs : SmR xs) (h1 : k0 ≤ 1000000000) :
    Calls Tryd.prog 8 #[v, .int .i64 x0] w fun e w' => e = .returned (.int .i64 ((k0 : Int) + 2 * (cntR xs : Int))) ∧ Below w.heap.size w w' :=
  heldR v xs.length x0 k0 hx0 w (by have := h; unfold IR Rt at this; rwa [mkR_length] at this) hs.len (by omega)

end Go.Proofs.YtebplaaneeekdaaDoor
