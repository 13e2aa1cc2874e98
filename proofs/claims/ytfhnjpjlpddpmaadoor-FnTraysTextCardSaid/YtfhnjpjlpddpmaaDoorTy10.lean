
/- The walks of FillByPrefix, FillTrays, RepackTrays. -/
import Derived.Test.YtfhnjpjlpddpmaaDoorTy9
namespace Go.Proofs.YtfhnjpjlpddpmaaDoor
open Go.RowKit
set_option linter.unusedVariables false

/-- Trays filled by prefix, and whether. -/
def fok (xs : List Ltr) (size d : Int) : Bool := bv xs && (inB size 1 20 && inB d 0 7)
def fbp (xs : List Ltr) (size d : Int) : List (List Ltr) := if fok xs size d then fillT size.toNat d.toNat xs else []
theorem fbp_no {xs : List Ltr} {size d : Int} (h : fok xs size d = false) : fbp xs size d = [] := by simp [fbp, h]
theorem fok_parts {xs : List Ltr} {size d : Int} (h : fok xs size d = true) : bv xs = true ∧ (1 ≤ size ∧ size ≤ 20) ∧ (0 ≤ d ∧ d ≤ 7) := by
  simp only [fok, Bool.and_eq_true, inB_true] at h
  exact h
theorem fbp_yes {xs : List Ltr} {size d : Nat} (h : fok xs size d = true) : fbp xs size d = fillT size d xs := by simp [fbp, h]
theorem fok_bv {xs : List Ltr} {size d : Int} (h : bv xs = false) : fok xs size d = false := by simp [fok, h]
theorem fok_size {xs : List Ltr} {size d : Int} (h : inB size 1 20 = false) : fok xs size d = false := by simp [fok, h]
theorem fok_d {xs : List Ltr} {size d : Int} (h : inB d 0 7 = false) : fok xs size d = false := by simp [fok, h]
theorem fok_mk {xs : List Ltr} {size d : Int} (h : bv xs = true) (h1 : inB size 1 20 = true) (h2 : inB d 0 7 = true) : fok xs size d = true := by simp [fok, h, h1, h2]
theorem fbp_small {xs : List Ltr} {size d : Int} : (fbp xs size d).length ≤ 60 ∧ (∀ t ∈ fbp xs size d, t.length ≤ 60) ∧ (fbp xs size d).flatten.length ≤ 60 := by
  cases h : fok xs size d with
  | false => rw [fbp_no h]; simp
  | true =>
    obtain ⟨h1, h2, h3⟩ := fok_parts h
    have hl := (bv_parts h1).1
    have h4 := (fill_all (size := size.toNat) (d := d.toNat) (by omega) xs)
    have h5 := fill_count (size := size.toNat) (d := d.toNat) (b := xs) (k := xs.length) (by omega) (Nat.le_refl _)
    rw [List.take_length] at h5
    have e : fbp xs size d = fillT size.toNat d.toNat xs := by simp [fbp, h]
    rw [e]
    refine ⟨by omega, fun t ht => ?_, by rw [h4.2]; exact hl⟩
    have := (h4.1.one t ht).2
    omega
theorem oll_nil (w : World) (lo hi : Nat) : OLL w lo hi (.slice none 0 0) [] := ⟨[], own_nil _ _ _ _ _, Rows.nil⟩
theorem oll_lit0 (w : World) : OLL (w.alloc (.cells #[] 33)) w.heap.size (w.alloc (.cells #[] 33)).heap.size (.slice (some ⟨w.heap.size, 0, none⟩) 0 0) [] := ⟨[], own_of (World.ownsRow_lit w #[] 0 (Nat.le_refl _) (Nat.zero_le _) rfl), Rows.nil⟩
theorem OLL.wide {w : World} {lo hi lo' hi' : Nat} {v : Value} {xss : List (List Ltr)} (h : OLL w lo hi v xss) (h1 : lo' ≤ lo) (h2 : hi ≤ hi') : OLL w lo' hi' v xss := by
  obtain ⟨us, a, b⟩ := h
  exact ⟨us, a.wide h1 h2, Rows.wide b h1 h2⟩
theorem code7 {xs : List Ltr} (h : bv xs = true) : ∀ x ∈ xs, x.2.size = 7 := fun x hx => codeB_size ((bv_parts h).2.1 x hx).1

end Go.Proofs.YtfhnjpjlpddpmaaDoor
