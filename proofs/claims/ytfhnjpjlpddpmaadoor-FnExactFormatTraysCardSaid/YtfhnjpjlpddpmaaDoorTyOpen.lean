
/- Opening arguments: letters and trays. -/
import Derived.Test.YtfhnjpjlpddpmaaDoorTyC
import Derived.Test.YtfhnjpjlpddpmaaDoorOpen0
namespace Go.Proofs.YtfhnjpjlpddpmaaDoor
open Go.RowKit Go.ChangeShapes Go.WideShapes Go.Deep
set_option linter.unusedVariables false

section
variable {H : Type} {enc : TypeId × Value → H} {w : World} {base : Nat} {spare : Nat → Bool} {held : Bool}
theorem openL_cell {fuel : Nat} {v : Value} {x : DataW H × List MemPlace} (h : DataW.trod enc Tryd.prog w base spare held fuel 38 [v] = some x) : ∃ xs, IL w v xs ∧ SzL xs := by
  rcases open_slice2 Tryd.underlying38 Tryd.underlying49 rfl rfl (by kernel_rfl) (by kernel_rfl) (by kernel_rfl) h with h0 | ⟨a, len, cap, hcs, hl, hm, hi⟩
  · injection h0 with h0
    subst h0
    exact ⟨[], ⟨none, 0, rfl, Rd.nil _ _, Nat.le_refl _, by unfold maxLen; omega⟩, by intro x hx; simp at hx⟩
  · injection hcs with hcs
    subst hcs
    obtain ⟨xs, hxl, hx⟩ := list_of (α := Ltr) (n := len) (p := fun i x => w.cell? (a.add (i * 2)) = some (ltf x).1 ∧ w.cell? (a.add (i * 2 + 1)) = some (ltf x).2 ∧ x.2.size ≤ maxLen) fun i hil => by
      obtain ⟨u, v, y, z, n, h1, h2, h3, h4⟩ := hi i hil
      obtain ⟨m, e1, _⟩ := DataW.trod_int Tryd.underlying3 h3
      obtain ⟨s, e2, _, hs⟩ := DataW.trod_string Tryd.underlying9 h4
      injection e1 with e1
      injection e2 with e2
      subst e1 e2
      exact ⟨(m, s), h1, h2, hs⟩
    subst hxl
    refine ⟨xs, ⟨some a, cap, rfl, rd_two fun i x hx' => ⟨(hx i x hx').1, (hx i x hx').2.1⟩, hl, hm⟩, fun x hxm => ?_⟩
    obtain ⟨i, hi⟩ := List.getElem?_of_mem hxm
    exact (hx i x hi).2.2
theorem openL {b0 : Nat} {v : Value} {d : DataW H} {p : List MemPlace} (hv : Value.okWide Tryd.prog w .any b0 38 v) (h : DataW.Trod enc Tryd.prog w base spare held 38 v d p) : ∃ xs, IL w v xs ∧ SzL xs := by
  obtain ⟨a, len, cap, rfl⟩ := okWide_slice Tryd.underlying38 hv
  obtain ⟨fuel, hf⟩ := h
  exact openL_cell hf
theorem openLL {b0 : Nat} {v : Value} {d : DataW H} {p : List MemPlace} (hv : Value.okWide Tryd.prog w .any b0 22 v) (h : DataW.Trod enc Tryd.prog w base spare held 22 v d p) : ∃ xss, ILL w v xss ∧ SzLL xss := by
  obtain ⟨a, len, cap, rfl⟩ := okWide_slice Tryd.underlying22 hv
  obtain ⟨fuel, hf⟩ := h
  rcases open_slice1 Tryd.underlying22 (by kernel_rfl) hf with ⟨h0, _⟩ | ⟨ad, l, c, m, n, V, D, Pl, hcs, _, hl, hm, hmm, _, hi⟩
  · simp [Value.cells] at h0
    obtain ⟨rfl, rfl, rfl⟩ := h0
    exact ⟨[], ⟨[], ⟨none, 0, rfl, Rd.nil _ _, Nat.le_refl _, by unfold maxLen; omega⟩, rfl, by simp⟩, by intro x hx; simp at hx⟩
  · simp [Value.cells] at hcs
    obtain ⟨rfl, rfl, rfl⟩ := hcs
    obtain ⟨us, hul, hu⟩ := list_of (α := Value × List Ltr) (n := len) (p := fun i x => w.cell? (ad.add i) = some x.1 ∧ IL w x.1 x.2 ∧ SzL x.2) fun i hil => by
      obtain ⟨h1, h2⟩ := hi i (by rw [hmm]; split <;> omega)
      obtain ⟨xs, h3, h4⟩ := openL_cell h2
      exact ⟨(V i, xs), h1, h3, h4⟩
    refine ⟨us.map (·.2), ⟨us.map (·.1), ⟨some ad, cap, by simp [hul], fun j u hj => ?_, by simp [hul]; exact hl, hm⟩, by simp, fun i u xs h1 h2 => ?_⟩, fun xs hxs => ?_⟩
    · rw [List.getElem?_map, Option.map_eq_some_iff] at hj
      obtain ⟨y, hy, rfl⟩ := hj
      exact ⟨ad, rfl, (hu j y hy).1⟩
    · rw [List.getElem?_map, Option.map_eq_some_iff] at h1 h2
      obtain ⟨y, hy, rfl⟩ := h1
      obtain ⟨z, hz, rfl⟩ := h2
      rw [hy] at hz
      injection hz with hz
      subst hz
      exact (hu i y hy).2.1
    · obtain ⟨y, hy, rfl⟩ := List.mem_map.1 hxs
      obtain ⟨i, hi⟩ := List.getElem?_of_mem hy
      exact (hu i y hi).2.2
end

end Go.Proofs.YtfhnjpjlpddpmaaDoor
