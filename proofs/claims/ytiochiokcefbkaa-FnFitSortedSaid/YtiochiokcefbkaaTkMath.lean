/- Plain lists and numbers for trucks: loads of trucks. No program in sight. -/
import Derived.Test.YtiochiokcefbkaaMem
namespace Go.Proofs.Ytiochiokcefbkaa
open Go.RowKit
set_option linter.unusedVariables false

def inB (n lo hi : Int) : Bool := decide (lo ≤ n) && decide (n ≤ hi)
theorem inB_low {n lo hi : Int} (h : n < lo) : inB n lo hi = false := by simp [inB, show ¬ lo ≤ n by omega]
theorem inB_true {n lo hi : Int} : inB n lo hi = true ↔ lo ≤ n ∧ n ≤ hi := by simp [inB]
theorem inB_false {n lo hi : Int} : inB n lo hi = false ↔ n < lo ∨ hi < n := by
  rw [← Bool.not_eq_true, inB_true]; omega

/-- Weights for a capacity. -/
def wv (xs : List Int) (cap : Int) : Bool := xs.all (fun x => inB x 1 cap) && (decide (xs.length ≤ 8) && inB cap 1 1000)

theorem wv_no {xs : List Int} {cap : Int} {k : Nat} {x : Int} (hx : xs[k]? = some x) (h : inB x 1 cap = false) : wv xs cap = false := by
  simp [wv, all_not (p := fun x => inB x 1 cap) hx h]
theorem wv_end {xs : List Int} {cap : Int} (h : Hid ((xs.take xs.length).all (fun x => inB x 1 cap) = true)) : wv xs cap = (decide (xs.length ≤ 8) && inB cap 1 1000) := by
  rw [wv, all_full h.out, Bool.true_and]
theorem wv_long {xs : List Int} {cap : Int} (h : 8 < xs.length) : wv xs cap = false := by
  rw [wv, decide_eq_false (by omega), Bool.false_and, Bool.and_false]
theorem wv_cap {xs : List Int} {cap : Int} (h : inB cap 1 1000 = false) : wv xs cap = false := by
  rw [wv, h, Bool.and_false, Bool.and_false]
theorem wv_parts {xs : List Int} {cap : Int} (h : wv xs cap = true) : (∀ x ∈ xs, 1 ≤ x ∧ x ≤ cap) ∧ xs.length ≤ 8 ∧ 1 ≤ cap ∧ cap ≤ 1000 := by
  simp only [wv, Bool.and_eq_true, List.all_eq_true, decide_eq_true_eq, inB_true] at h
  exact h
theorem wv_1000 {xs : List Int} {cap : Int} (h : wv xs cap = true) : wv xs 1000 = true := by
  obtain ⟨h1, h2, h3, h4⟩ := wv_parts h
  simp only [wv, Bool.and_eq_true, List.all_eq_true, decide_eq_true_eq, inB_true]
  exact ⟨fun x hx => by have := h1 x hx; omega, h2, by omega, by omega⟩
theorem wv_at {xs : List Int} {cap : Int} (h : wv xs cap = true) {k : Nat} {x : Int} (hx : xs[k]? = some x) : 1 ≤ x ∧ x ≤ cap := (wv_parts h).1 x (List.mem_of_getElem? hx)

/-- Numbers of trucks, at most eight of them. -/
def gv (g : List Int) : Bool := g.all (fun x => inB x 0 7) && decide (g.length ≤ 8)
theorem gv_no {xs : List Int} {k : Nat} {x : Int} (hx : xs[k]? = some x) (h : inB x 0 7 = false) : gv xs = false := by
  simp [gv, all_not (p := fun x => inB x 0 7) hx h]
theorem gv_end {xs : List Int} (h : Hid ((xs.take xs.length).all (fun x => inB x 0 7) = true)) : gv xs = decide (xs.length ≤ 8) := by
  rw [gv, all_full h.out, Bool.true_and]
theorem gv_long {xs : List Int} (h : 8 < xs.length) : gv xs = false := by
  rw [gv, decide_eq_false (by omega), Bool.and_false]
theorem gv_mem {xs : List Int} (h : gv xs = true) {k : Nat} {x : Int} (hx : xs[k]? = some x) : 0 ≤ x ∧ x ≤ 7 := by
  simp only [gv, Bool.and_eq_true, List.all_eq_true] at h
  exact inB_true.1 (h.1 x (List.mem_of_getElem? hx))
theorem gv_len {xs : List Int} (h : gv xs = true) : xs.length ≤ 8 := by
  simp only [gv, Bool.and_eq_true, decide_eq_true_eq] at h
  exact h.2

/-- One more than the greatest of some numbers; 0 if there are none. -/
def top (g : List Int) : Int := g.foldl (fun n x => if n < x + 1 then x + 1 else n) 0
theorem top_snoc (g : List Int) (x : Int) : top (g ++ [x]) = if top g < x + 1 then x + 1 else top g := by
  unfold top; rw [List.foldl_append]; rfl
theorem top_bd (g : List Int) (hg : ∀ x ∈ g, 0 ≤ x ∧ x ≤ 7) : 0 ≤ top g ∧ top g ≤ 8 := by
  have key : ∀ (l : List Int) (a : Int), (∀ x ∈ l, 0 ≤ x ∧ x ≤ 7) → 0 ≤ a ∧ a ≤ 8 → 0 ≤ l.foldl (fun n x => if n < x + 1 then x + 1 else n) a ∧ l.foldl (fun n x => if n < x + 1 then x + 1 else n) a ≤ 8 := by
    intro l
    induction l with
    | nil => intro a _ h; exact h
    | cons x l ih =>
      intro a hl ha
      have := hl x (by simp)
      refine ih _ (fun y hy => hl y (by simp [hy])) ?_
      dsimp only
      split <;> omega
  exact key g 0 hg (by omega)
theorem top_gt (g : List Int) : ∀ x ∈ g, x < top g := by
  have key : ∀ (l : List Int) (a : Int), a ≤ l.foldl (fun n x => if n < x + 1 then x + 1 else n) a ∧ ∀ x ∈ l, x < l.foldl (fun n x => if n < x + 1 then x + 1 else n) a := by
    intro l
    induction l with
    | nil => intro a; exact ⟨Int.le_refl _, by simp⟩
    | cons y l ih =>
      intro a
      obtain ⟨h1, h2⟩ := ih (if a < y + 1 then y + 1 else a)
      have h3 : a ≤ (if a < y + 1 then y + 1 else a) ∧ y < (if a < y + 1 then y + 1 else a) := by split <;> omega
      refine ⟨by simp only [List.foldl_cons]; omega, fun x hx => ?_⟩
      simp only [List.foldl_cons]
      rcases List.mem_cons.1 hx with rfl | hx
      · omega
      · exact h2 x hx
  exact (key g 0).2
/-- The count of trucks. -/
def tc (g : List Int) : Int := if gv g then top g else -1
theorem tc_no {g : List Int} (h : gv g = false) : tc g = -1 := by simp [tc, h]
theorem tc_yes {g : List Int} (h : gv g = true) : tc g = top g := by simp [tc, h]
theorem tc_nat {g : List Int} (h : gv g = true) : ∃ n : Nat, n ≤ 8 ∧ tc g = (n : Int) ∧ n = (top g).toNat ∧ ∀ x ∈ g, 0 ≤ x ∧ x < (n : Int) := by
  have h0 : ∀ x ∈ g, 0 ≤ x ∧ x ≤ 7 := by
    simp only [gv, Bool.and_eq_true, List.all_eq_true, inB_true] at h
    exact h.1
  obtain ⟨h1, h2⟩ := top_bd g h0
  refine ⟨(top g).toNat, by omega, by rw [tc_yes h]; omega, rfl, fun x hx => ⟨(h0 x hx).1, ?_⟩⟩
  have := top_gt g x hx
  omega

/-- One weight more in a truck. -/
def ldStep (ld : List Int) (p : Int × Int) : List Int := ld.set p.1.toNat (ld.getD p.1.toNat 0 + p.2)
/-- The loads of n trucks. -/
def lds (g w : List Int) (n : Nat) : List Int := (g.zip w).foldl ldStep (List.replicate n 0)
theorem lds_nil (n : Nat) (g w : List Int) : lds (g.take 0) (w.take 0) n = List.replicate n 0 := rfl
theorem lds_snoc {g w : List Int} {k : Nat} {t x : Int} (n : Nat) (ht : g[k]? = some t) (hx : w[k]? = some x) :
    lds (g.take (k + 1)) (w.take (k + 1)) n = ldStep (lds (g.take k) (w.take k) n) (t, x) := by
  have hg : k < g.length := (List.getElem?_eq_some_iff.1 ht).1
  have hw : k < w.length := (List.getElem?_eq_some_iff.1 hx).1
  rw [lds, lds, take_snoc ht, take_snoc hx, List.zip_append (by simp; omega), List.foldl_append]; rfl
theorem lds_length (n : Nat) (g w : List Int) : (lds g w n).length = n := by
  have key : ∀ (l : List (Int × Int)) (a : List Int), (l.foldl ldStep a).length = a.length := by
    intro l
    induction l with
    | nil => intro a; rfl
    | cons p l ih => intro a; rw [List.foldl_cons, ih]; simp [ldStep]
  rw [lds, key]; simp
theorem ldStep_bd {ld : List Int} {t x K : Int} (h : ∀ y ∈ ld, 0 ≤ y ∧ y ≤ K) (hx : 1 ≤ x ∧ x ≤ 1000) (hK : 0 ≤ K) : ∀ y ∈ ldStep ld (t, x), 0 ≤ y ∧ y ≤ K + 1000 := by
  intro y hy
  rcases List.mem_or_eq_of_mem_set hy with hy | rfl
  · have := h y hy; omega
  · have h0 : 0 ≤ ld.getD t.toNat 0 ∧ ld.getD t.toNat 0 ≤ K := by
      rw [List.getD_eq_getElem?_getD]
      cases hq : ld[t.toNat]? with
      | none => simp; omega
      | some z => simpa using h z (List.mem_of_getElem? hq)
    dsimp only
    omega
theorem lds_put {g w : List Int} {k tn n : Nat} {x y : Int} (ht : g[k]? = some (tn : Int)) (hx : w[k]? = some x) (hy : (lds (g.take k) (w.take k) n)[tn]? = some y) :
    (ints (lds (g.take k) (w.take k) n)).set tn (.int .i64 (y + x)) = ints (lds (g.take (k + 1)) (w.take (k + 1)) n) := by
  rw [ints_set, lds_snoc n ht hx, ldStep]
  simp [List.getD, hy]
theorem lds_bd {w : List Int} (hw : ∀ x ∈ w, 1 ≤ x ∧ x ≤ 1000) (n : Nat) (g : List Int) (hl : g.length = w.length) (k : Nat) (hk : k ≤ w.length) : ∀ y ∈ lds (g.take k) (w.take k) n, 0 ≤ y ∧ y ≤ 1000 * k := by
  induction k with
  | zero => intro y hy; rw [lds_nil] at hy; have := List.eq_of_mem_replicate hy; omega
  | succ k ih =>
    intro y hy
    have hg1 := List.getElem?_eq_getElem (l := g) (i := k) (by omega)
    have hw1 := List.getElem?_eq_getElem (l := w) (i := k) (by omega)
    rw [lds_snoc n hg1 hw1] at hy
    have := ldStep_bd (K := 1000 * k) (ih (by omega)) (hw _ (List.mem_of_getElem? hw1)) (by omega) y hy
    omega

end Go.Proofs.Ytiochiokcefbkaa
