
/- Opening arguments: offices. -/
import Derived.Test.YthmngaioimohaaaNtO
import Derived.Test.YthmngaioimohaaaNtOpen
namespace Go.Proofs.Ythmngaioimohaaa
open Go.RowKit Go.ChangeShapes Go.WideShapes Go.Deep
set_option linter.unusedVariables false

section
variable {H : Type} {enc : TypeId × Value → H} {w : World} {base : Nat} {spare : Nat → Bool} {held : Bool}
set_option maxRecDepth 100000 in
theorem openO {b0 : Nat} {v : Value} {d : DataW H} {p : List MemPlace} (hv : Value.okWide Try.prog w .any b0 22 v) (h : DataW.Trod enc Try.prog w base spare held 22 v d p) : ∃ xs, InO w v xs ∧ SzO xs := by
  obtain ⟨a, len, cap, rfl⟩ := okWide_slice Try.underlying22 hv
  obtain ⟨fuel, hf⟩ := h
  rcases open_slice2 Try.underlying22 Try.underlying42 rfl rfl (by kernel_rfl) (by kernel_rfl) (by kernel_rfl) hf with h0 | ⟨a, len, cap, hcs, hl, hm, hi⟩
  · simp [Value.cells] at h0
    obtain ⟨rfl, rfl, rfl⟩ := h0
    exact ⟨[], ⟨[], ⟨none, 0, rfl, Rd.nil _ _, Nat.le_refl _, by unfold maxLen; omega⟩, rfl, by simp⟩, by intro x hx; simp at hx⟩
  · simp [Value.cells] at hcs
    obtain ⟨rfl, rfl, rfl⟩ := hcs
    obtain ⟨us, hul, hu⟩ := list_of (α := (ByteArray × Value) × List Rul) (n := len) (p := fun i x => w.cell? (a.add (i * 2)) = some (otf x.1).1 ∧ w.cell? (a.add (i * 2 + 1)) = some (otf x.1).2 ∧ x.1.1.size ≤ maxLen ∧ IR w x.1.2 x.2 ∧ SzR x.2) fun i hil => by
      obtain ⟨u, v, y, z, n, h1, h2, h3, h4⟩ := hi i hil
      obtain ⟨m, e1, _, hm'⟩ := DataW.trod_string Try.underlying9 h3
      injection e1 with e1
      subst e1
      obtain ⟨xs, h5, h6⟩ := openR_cell h4
      exact ⟨((m, v), xs), h1, h2, hm', h5, h6⟩
    subst hul
    refine ⟨us.map (fun x => (x.1.1, x.2)), ⟨us.map (·.1), ⟨some a, cap, by simp, rd_two fun i x hx' => ?_, by simp; exact hl, hm⟩, by simp, fun i u xs h1 h2 => ?_⟩, fun xs hxs => ?_⟩
    · rw [List.getElem?_map, Option.map_eq_some_iff] at hx'
      obtain ⟨y, hy, rfl⟩ := hx'
      exact ⟨(hu i y hy).1, (hu i y hy).2.1⟩
    · rw [List.getElem?_map, Option.map_eq_some_iff] at h1 h2
      obtain ⟨y, hy, rfl⟩ := h1
      obtain ⟨z, hz, rfl⟩ := h2
      rw [hy] at hz
      injection hz with hz
      subst hz
      exact ⟨rfl, (hu i y hy).2.2.2.1⟩
    · obtain ⟨y, hy, rfl⟩ := List.mem_map.1 hxs
      obtain ⟨i, hi⟩ := List.getElem?_of_mem hy
      exact ⟨(hu i y hi).2.2.1, (hu i y hi).2.2.2.2⟩
end

end Go.Proofs.Ythmngaioimohaaa
