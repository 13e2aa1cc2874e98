
/- The walk of the law on filled trays. -/
import Derived.Test.YtaadjjadpacclaaTyLawC
namespace Go.Proofs.Ytaadjjadpacclaa
open Go.RowKit
set_option linter.unusedVariables false

/-- Tray m of a slice of trays: its cell. -/
theorem LtS.at_ {w : World} {D : Option Addr} {n d : Nat} {xss : List (List Ltr)} (h : LtS w (.slice D n d) xss) {m : Nat} (hm : m < n) : ∃ ad u x, D = some ad ∧ xss[m]? = some x ∧ w.cell? (ad.add m) = some u ∧ Lt w u x := by
  obtain ⟨us, ⟨A, c, e, hA, _, _⟩, hus⟩ := h
  injection e with e1 e2 e3
  subst e1
  have hl := hus.len
  obtain ⟨p, x, hp, hx, hpx⟩ := hus.at_ (k := m) (by omega)
  obtain ⟨ad, e4, hc⟩ := hA m _ hp
  exact ⟨ad, p, x, e4, hx, hc, hpx⟩
theorem LtS.num {w : World} {D : Option Addr} {n d : Nat} {xss : List (List Ltr)} (h : LtS w (.slice D n d) xss) : n = xss.length := by
  obtain ⟨us, ⟨A, c, e, hA, _, _⟩, hus⟩ := h
  injection e with e1 e2 e3
  rw [e2, hus.len]
end Go.Proofs.Ytaadjjadpacclaa
