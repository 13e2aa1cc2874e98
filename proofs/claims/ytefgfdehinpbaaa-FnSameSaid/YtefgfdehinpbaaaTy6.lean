
/- The walks of what joins trays to one batch, TraysValid and EmptyTrays. -/
import Derived.Test.YtefgfdehinpbaaaTy5
import Derived.Test.YtefgfdehinpbaaaTy3
import Derived.Test.YtefgfdehinpbaaaApp
namespace Go.Proofs.Ytefgfdehinpbaaa
open Go.RowKit
set_option linter.unusedVariables false

theorem startS (w : World) (xss : List (List Ltr)) : Below w.heap.size w (w.alloc (.cells #[] 44)) ∧ (w.alloc (.cells #[] 44)).ownsRow w.heap.size 44 2 (.slice (some ⟨w.heap.size, 0, none⟩) 0 0) (xss.take 0).flatten.length (lcs (xss.take 0).flatten) := ⟨(Below.refl _ _).alloc (Nat.le_refl _) _, World.ownsRow_lit w #[] 0 (Nat.le_refl _) (Nat.zero_le _) rfl⟩
theorem startI (w : World) (xss : List (List Ltr)) : Below w.heap.size w w ∧ w.ownsRow w.heap.size 44 2 (.slice none 0 0) (xss.take 0).flatten.length (lcs (xss.take 0).flatten) := ⟨Below.refl _ _, World.ownsRow_nil _ _ _ _⟩
theorem flat_le {xss : List (List Ltr)} {m : Nat} (h : ∀ t ∈ xss, t.length ≤ m) : xss.flatten.length ≤ xss.length * m := by
  induction xss with
  | nil => simp
  | cons x l ih =>
    have h1 := h x (by simp)
    have h2 := ih fun t ht => h t (by simp [ht])
    rw [List.flatten_cons, List.length_append, List.length_cons, Nat.add_mul]; omega
theorem szs_flat {xss : List (List Ltr)} (h : ∀ xs ∈ xss, Szs xs) : Szs xss.flatten := fun x hx => by
  obtain ⟨xs, h1, h2⟩ := List.mem_flatten.1 hx
  exact h xs h1 x h2
theorem tv_last {xss : List (List Ltr)} {size : Int} (h : (xss.take xss.length).all (fun t => inB t.length 1 size) = true) (h1 : inB size 1 20 = true) (h2 : xss.length ≤ 60) : tv xss size = bv xss.flatten := by
  rw [tv_end h, h1, decide_eq_true h2]; rfl
theorem all_len {xss : List (List Ltr)} {size : Int} (h : (xss.take xss.length).all (fun t => inB t.length 1 size) = true) : ∀ t ∈ xss, 1 ≤ t.length ∧ (t.length : Int) ≤ size := by
  rw [List.take_length] at h
  intro t ht
  have := inB_true.1 (List.all_eq_true.1 h t ht)
  omega

end Go.Proofs.Ytefgfdehinpbaaa
