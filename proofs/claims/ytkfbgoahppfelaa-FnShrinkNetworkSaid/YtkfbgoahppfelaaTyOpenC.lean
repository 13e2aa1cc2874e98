
/- Opening an argument that is a code: a slice of bytes. -/
import Derived.Test.YtkfbgoahppfelaaOpen0
import Derived.Test.YtkfbgoahppfelaaDraw2
namespace Go.Proofs.Ytkfbgoahppfelaa
open Go.RowKit Go.ChangeShapes Go.WideShapes Go.Deep
set_option linter.unusedVariables false
set_option maxRecDepth 100000

section
variable {H : Type} {enc : TypeId × Value → H} {w : World} {base : Nat} {spare : Nat → Bool} {held : Bool}
theorem openCode {b0 : Nat} {v : Value} {d : DataW H} {p : List MemPlace} (hv : Value.okWide Try.prog w .any b0 22 v) (h : DataW.Trod enc Try.prog w base spare held 22 v d p) : ∃ (A : Option Addr) (c : Nat) (bs : List Int), v = .slice A bs.length c ∧ Coded0 w A bs c := by
  obtain ⟨a, len, cap, rfl⟩ := okWide_slice Try.underlying22 hv
  obtain ⟨fuel, hf⟩ := h
  rcases open_slice1 Try.underlying22 (by kernel_rfl) hf with ⟨h0, _⟩ | ⟨ad, l, c, m, n, V, D, Pl, hcs, _, hl, hm, hmm, _, hi⟩
  · simp [Value.cells] at h0
    obtain ⟨rfl, rfl, rfl⟩ := h0
    exact ⟨none, 0, [], rfl, Rd.nil _ _, by simp, by simp, by simp⟩
  · simp [Value.cells] at hcs
    obtain ⟨rfl, rfl, rfl⟩ := hcs
    obtain ⟨bs, hbl, hb⟩ := list_of (α := Int) (n := len) (p := fun i x => w.cell? (ad.add i) = some (.int .u8 x) ∧ 0 ≤ x ∧ x ≤ 255) fun i hil => by
      obtain ⟨h1, h2⟩ := hi i (by rw [hmm]; split <;> omega)
      obtain ⟨x, e1, _, hw⟩ := DataW.trod_int Try.underlying5 h2
      injection e1 with e1
      have b1 : IntKind.u8.min = 0 := rfl
      have b2 : IntKind.u8.max = 255 := rfl
      simp [Lit.wf] at hw
      exact ⟨x, by rw [h1, e1], by omega, by omega⟩
    refine ⟨some ad, cap, bs, by rw [hbl], fun j u hj => ?_, fun x hx => ?_, by omega, by omega⟩
    · simp only [bytes, List.getElem?_map, Option.map_eq_some_iff] at hj
      obtain ⟨y, hy, rfl⟩ := hj
      exact ⟨ad, rfl, (hb j y hy).1⟩
    · obtain ⟨i, hi2⟩ := List.getElem?_of_mem hx
      exact (hb i x hi2).2
end

end Go.Proofs.Ytkfbgoahppfelaa
