
/- Opening arguments that are slices of structs of two one-cell fields, and slices of slices. No program in sight. -/
import Derived.Test.YthmngaioimohaaaMem2
import Derived.Deep.Slices
import Derived.Deep.Fields
import Derived.ChangeSame
import Derived.OpenShut
import Derived.ShutString
import Derived.ChangeOld
import Derived.Carry
namespace Go.Proofs.Ythmngaioimohaaa
open Go.RowKit Go.ChangeShapes Go.WideShapes Go.Deep
set_option linter.unusedVariables false

section
variable {H : Type} {enc : TypeId × Value → H} {P : Program} {w : World} {base : Nat} {spare : Nat → Bool} {held : Bool}
theorem open_slice2 {t e : TypeId} {f0 f1 : Field} {fuel : Nat} {cs : List Value} {x : DataW H × List MemPlace} (ht : P.underlying t = some (.slice e)) (he : P.underlying e = some (.struct #[f0, f1]))
    (o0 : f0.offset = 0) (o1 : f1.offset = 1) (c0 : P.cellsOf f0.type = 1) (c1 : P.cellsOf f1.type = 1) (hC : P.cellsOf e = 2) (h : DataW.trod enc P w base spare held fuel t cs = some x) :
    cs = [.slice none 0 0] ∨ ∃ (a : Addr) (len cap : Nat), cs = [.slice (some a) len cap] ∧ len ≤ cap ∧ cap ≤ maxLen ∧
      ∀ i, i < len → ∃ (u v : Value) (y z : DataW H × List MemPlace) (n : Nat), w.cell? (a.add (i * 2)) = some u ∧ w.cell? (a.add (i * 2 + 1)) = some v ∧
        DataW.trod enc P w base spare held n f0.type [u] = some y ∧ DataW.trod enc P w base spare held n f1.type [v] = some z := by
  rcases open_slice ht h with ⟨h0, _⟩ | ⟨a, len, cap, m, n, D, Pl, hcs, hb, hl, hm, hmm, hx, hi⟩
  · exact .inl h0
  · refine .inr ⟨a, len, cap, hcs, hl, hm, fun i hil => ?_⟩
    have him : i < m := by rw [hmm]; split <;> omega
    obtain ⟨cs', hc, ht'⟩ := hi i him
    rw [hC] at hc
    obtain ⟨_, hcl, hat⟩ := World.cells?_some hc
    obtain ⟨ys, n', hn', hy, hlen, hyl, hf⟩ := DataW.trod_struct he ht'
    match cs', hcl with
    | [u, v], _ =>
      have a0 := hat 0 (by omega)
      have a1 := hat 1 (by omega)
      rw [Go.Deep.add_add] at a0 a1
      have g0 := hf 0 f0 rfl
      have g1 := hf 1 f1 rfl
      rw [o0, c0] at g0
      rw [o1, c1] at g1
      have y0 := List.getElem?_eq_getElem (l := ys) (i := 0) (by rw [hyl]; show _ < 2; omega)
      have y1 := List.getElem?_eq_getElem (l := ys) (i := 1) (by rw [hyl]; show _ < 2; omega)
      exact ⟨u, v, _, _, n', by simpa using a0, by simpa using a1, by simpa using g0.trans y0, by simpa using g1.trans y1⟩
end

/-- A list of what stands at each place. -/
theorem list_of {α : Type} {n : Nat} {p : Nat → α → Prop} (h : ∀ i, i < n → ∃ x, p i x) : ∃ xs : List α, xs.length = n ∧ ∀ (i : Nat) (x : α), xs[i]? = some x → p i x := by
  induction n with
  | zero => exact ⟨[], rfl, by simp⟩
  | succ n ih =>
    obtain ⟨xs, hl, hx⟩ := ih fun i hi => h i (by omega)
    obtain ⟨y, hy⟩ := h n (by omega)
    refine ⟨xs ++ [y], by simp [hl], fun i x hi => ?_⟩
    rcases Nat.lt_or_ge i xs.length with h1 | h1
    · rw [List.getElem?_append_left h1] at hi; exact hx i x hi
    · have h2 := (List.getElem?_eq_some_iff.1 hi).1
      simp at h2
      have : i = xs.length := by omega
      subst this
      simp at hi
      subst hi
      rw [hl]; exact hy
/-- Cells of two by two. -/
theorem rd_two {α : Type} {f : α → Value × Value} {w : World} {a : Addr} {xs : List α} (h : ∀ (i : Nat) (x : α), xs[i]? = some x → w.cell? (a.add (i * 2)) = some (f x).1 ∧ w.cell? (a.add (i * 2 + 1)) = some (f x).2) : Rd w (some a) (cs2 f xs) := by
  intro j u hu
  refine ⟨a, rfl, ?_⟩
  have hj := (List.getElem?_eq_some_iff.1 hu).1
  rw [cs2_length] at hj
  have hx := List.getElem?_eq_getElem (l := xs) (i := j / 2) (by omega)
  obtain ⟨h1, h2⟩ := h _ _ hx
  obtain ⟨g1, g2⟩ := cs2_get (f := f) hx
  rcases Nat.mod_two_eq_zero_or_one j with h0 | h0
  · have e : j / 2 * 2 = j := by omega
    rw [e] at h1 g1
    rw [hu] at g1
    rw [h1, g1]
  · have e : j / 2 * 2 + 1 = j := by omega
    rw [e] at h2 g2
    rw [hu] at g2
    rw [h2, g2]

end Go.Proofs.Ythmngaioimohaaa
