
/- Opening arguments: rules. -/
import Derived.Test.YthmngaioimohaaaNtC
import Derived.Test.YthmngaioimohaaaOpen0
namespace Go.Proofs.Ythmngaioimohaaa
open Go.RowKit Go.ChangeShapes Go.WideShapes Go.Deep
set_option linter.unusedVariables false

section
variable {H : Type} {enc : TypeId × Value → H} {w : World} {base : Nat} {spare : Nat → Bool} {held : Bool}
set_option maxRecDepth 100000 in
theorem openR_cell {fuel : Nat} {v : Value} {x : DataW H × List MemPlace} (h : DataW.trod enc Try.prog w base spare held fuel 40 [v] = some x) : ∃ xs, IR w v xs ∧ SzR xs := by
  rcases open_slice2 Try.underlying40 Try.underlying81 rfl rfl (by kernel_rfl) (by kernel_rfl) (by kernel_rfl) h with h0 | ⟨a, len, cap, hcs, hl, hm, hi⟩
  · injection h0 with h0
    subst h0
    exact ⟨[], ⟨none, 0, rfl, Rd.nil _ _, Nat.le_refl _, by unfold maxLen; omega⟩, by intro x hx; simp at hx⟩
  · injection hcs with hcs
    subst hcs
    obtain ⟨xs, hxl, hx⟩ := list_of (α := Rul) (n := len) (p := fun i x => w.cell? (a.add (i * 2)) = some (rtf x).1 ∧ w.cell? (a.add (i * 2 + 1)) = some (rtf x).2 ∧ x.1.size ≤ maxLen ∧ x.2.size ≤ maxLen) fun i hil => by
      obtain ⟨u, v, y, z, n, h1, h2, h3, h4⟩ := hi i hil
      obtain ⟨m, e1, _, hm'⟩ := DataW.trod_string Try.underlying9 h3
      obtain ⟨s, e2, _, hs⟩ := DataW.trod_string Try.underlying9 h4
      injection e1 with e1
      injection e2 with e2
      subst e1 e2
      exact ⟨(m, s), h1, h2, hm', hs⟩
    subst hxl
    refine ⟨xs, ⟨some a, cap, rfl, rd_two fun i x hx' => ⟨(hx i x hx').1, (hx i x hx').2.1⟩, hl, hm⟩, fun x hxm => ?_⟩
    obtain ⟨i, hi⟩ := List.getElem?_of_mem hxm
    exact (hx i x hi).2.2
set_option maxRecDepth 100000 in
theorem openR {b0 : Nat} {v : Value} {d : DataW H} {p : List MemPlace} (hv : Value.okWide Try.prog w .any b0 40 v) (h : DataW.Trod enc Try.prog w base spare held 40 v d p) : ∃ xs, IR w v xs ∧ SzR xs := by
  obtain ⟨a, len, cap, rfl⟩ := okWide_slice Try.underlying40 hv
  obtain ⟨fuel, hf⟩ := h
  exact openR_cell hf

end
end Go.Proofs.Ythmngaioimohaaa
