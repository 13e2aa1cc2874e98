/- Plain lists and numbers: the load of one truck, and all loads together. No program in sight. -/
import Derived.Test.YtiochiokcefbkaaTkMath
namespace Go.Proofs.Ytiochiokcefbkaa
open Go.RowKit
set_option linter.unusedVariables false

/-- The weights of truck t, as a sum. -/
def tk (g w : List Int) (t : Int) : Int := ((g.zip w).map (fun p => if p.1 = t then p.2 else 0)).sum
theorem tk_zero (g w : List Int) (t : Int) : tk (g.take 0) (w.take 0) t = 0 := rfl
theorem tk_snoc {g w : List Int} {k : Nat} {s x : Int} (t : Int) (ht : g[k]? = some s) (hx : w[k]? = some x) :
    tk (g.take (k + 1)) (w.take (k + 1)) t = tk (g.take k) (w.take k) t + (if s = t then x else 0) := by
  have hg : k < g.length := (List.getElem?_eq_some_iff.1 ht).1
  have hw : k < w.length := (List.getElem?_eq_some_iff.1 hx).1
  rw [tk, tk, take_snoc ht, take_snoc hx, List.zip_append (by simp; omega), List.map_append, List.sum_append]
  simp
theorem sum_snoc {w : List Int} {k : Nat} {x : Int} (hx : w[k]? = some x) : (w.take (k + 1)).sum = (w.take k).sum + x := by
  rw [take_snoc hx, List.sum_append]; simp
theorem sum_bd {w : List Int} {K : Int} (hw : ∀ x ∈ w, 0 ≤ x ∧ x ≤ K) : 0 ≤ w.sum ∧ w.sum ≤ K * w.length := by
  induction w with
  | nil => simp
  | cons x w ih =>
    have h1 := hw x (by simp)
    have h2 := ih (fun y hy => hw y (by simp [hy]))
    simp only [List.sum_cons, List.length_cons, Int.natCast_add, Int.mul_add]
    omega
theorem tk_bd {g w : List Int} {K : Int} (hw : ∀ x ∈ w, 0 ≤ x ∧ x ≤ K) (hK : 0 ≤ K) (t : Int) (hl : g.length = w.length) : 0 ≤ tk g w t ∧ tk g w t ≤ K * w.length := by
  have := sum_bd (w := (g.zip w).map (fun p => if p.1 = t then p.2 else 0)) (K := K) (by
    intro x hx
    obtain ⟨p, hp, rfl⟩ := List.mem_map.1 hx
    have := hw p.2 (List.of_mem_zip hp).2
    split <;> omega)
  rw [List.length_map, List.length_zip, hl, Nat.min_self] at this
  exact this

theorem ldStep_get (ld : List Int) (p : Int × Int) (t : Nat) (ht : t < ld.length) : (ldStep ld p).getD t 0 = ld.getD t 0 + (if p.1.toNat = t then p.2 else 0) := by
  unfold ldStep
  by_cases h : p.1.toNat = t
  · rw [h, List.getD_eq_getElem?_getD, List.getElem?_set_self (by omega)]; simp [List.getD_eq_getElem?_getD]
  · simp [List.getD_eq_getElem?_getD, List.getElem?_set_ne h, h]
theorem ldStep_length (ld : List Int) (p : Int × Int) : (ldStep ld p).length = ld.length := by simp [ldStep]
/-- The load of a truck is the sum of its weights. -/
theorem lds_get (g w : List Int) (n t : Nat) (hg : ∀ x ∈ g, 0 ≤ x) (ht : t < n) : (lds g w n).getD t 0 = tk g w t := by
  have key : ∀ (l : List (Int × Int)) (a : List Int), (∀ p ∈ l, 0 ≤ p.1) → t < a.length → (l.foldl ldStep a).getD t 0 = a.getD t 0 + (l.map (fun p => if p.1 = (t : Int) then p.2 else 0)).sum := by
    intro l
    induction l with
    | nil => intro a _ _; simp
    | cons p l ih =>
      intro a hl ha
      rw [List.foldl_cons, ih _ (fun q hq => hl q (by simp [hq])) (by rw [ldStep_length]; exact ha), ldStep_get a p t ha, List.map_cons, List.sum_cons]
      have h0 := hl p (by simp)
      have : (p.1.toNat = t) ↔ p.1 = (t : Int) := by omega
      simp only [this]
      omega
  rw [lds, key _ _ (fun p hp => hg _ (List.of_mem_zip hp).1) (by simpa using ht), List.getD_eq_getElem?_getD, List.getElem?_replicate]
  simp [ht, tk]
theorem lds_at {g w : List Int} {n t : Nat} (hg : ∀ x ∈ g, 0 ≤ x) (ht : t < n) : (lds g w n)[t]? = some (tk g w t) := by
  have h := lds_get g w n t hg ht
  have hl : t < (lds g w n).length := by rw [lds_length]; exact ht
  rw [List.getD_eq_getElem?_getD, List.getElem?_eq_getElem hl] at h
  rw [List.getElem?_eq_getElem hl]
  simpa using h

/-- The sum of the loads of the first n trucks. -/
def loadSum (g w : List Int) (n : Nat) : Int := ((List.range n).map (fun t : Nat => tk g w (t : Int))).sum
theorem loadSum_succ (g w : List Int) (n : Nat) : loadSum g w (n + 1) = loadSum g w n + tk g w n := by
  simp [loadSum, List.range_succ, List.sum_append]
theorem loadSum_bd {g w : List Int} {K : Int} (hw : ∀ x ∈ w, 0 ≤ x ∧ x ≤ K) (hK : 0 ≤ K) (hl : g.length = w.length) (n : Nat) : 0 ≤ loadSum g w n := by
  induction n with
  | zero => simp [loadSum]
  | succ n ih => rw [loadSum_succ]; have := tk_bd hw hK n hl; omega
theorem tk_cons (g w : List Int) (s x t : Int) : tk (s :: g) (x :: w) t = (if s = t then x else 0) + tk g w t := by simp [tk]
theorem one_sum (s x : Int) (n : Nat) (h0 : 0 ≤ s) : ((List.range n).map (fun t : Nat => if s = (t : Int) then x else 0)).sum = if s < n then x else 0 := by
  induction n with
  | zero => simp; omega
  | succ n ih =>
    simp only [List.range_succ, List.map_append, List.sum_append, ih, List.map_cons, List.map_nil, List.sum_cons, List.sum_nil]
    by_cases h1 : s < (n : Int)
    · rw [if_pos h1, if_neg (by omega), if_pos (by omega)]; omega
    · by_cases h2 : s = (n : Int)
      · rw [if_neg h1, if_pos h2, if_pos (by omega)]; omega
      · rw [if_neg h1, if_neg h2, if_neg (by omega)]; omega
theorem loadSum_cons (g w : List Int) (s x : Int) (n : Nat) (h0 : 0 ≤ s) : loadSum (s :: g) (x :: w) n = (if s < n then x else 0) + loadSum g w n := by
  rw [← one_sum s x n h0]
  induction n with
  | zero => simp [loadSum]
  | succ n ih =>
    rw [loadSum_succ, loadSum_succ, ih, List.range_succ, List.map_append, List.sum_append, tk_cons]
    simp
    omega
/-- All loads together are all weights. -/
theorem loadSum_all (g w : List Int) (n : Nat) (hl : g.length = w.length) (hg : ∀ x ∈ g, 0 ≤ x ∧ x < (n : Int)) : loadSum g w n = w.sum := by
  induction g generalizing w with
  | nil =>
    cases w with
    | nil =>
      have : ∀ n, loadSum [] [] n = 0 := fun n => by
        induction n with
        | zero => rfl
        | succ n ih => rw [loadSum_succ, ih]; rfl
      rw [this]; rfl
    | cons x w => simp at hl
  | cons s g ih =>
    cases w with
    | nil => simp at hl
    | cons x w =>
      have h0 := hg s (by simp)
      rw [loadSum_cons _ _ _ _ _ h0.1, if_pos h0.2, ih w (by simpa using hl) (fun y hy => hg y (by simp [hy])), List.sum_cons]
theorem tk_pos {g w : List Int} {t : Int} (hl : g.length = w.length) (hw : ∀ x ∈ w, 1 ≤ x) (ht : t ∈ g) : 1 ≤ tk g w t := by
  induction g generalizing w with
  | nil => simp at ht
  | cons s g ih =>
    cases w with
    | nil => simp at hl
    | cons x w =>
      rw [tk_cons]
      have h1 := hw x (by simp)
      have hn : 0 ≤ tk g w t := by
        unfold tk
        have key : ∀ l : List (Int × Int), (∀ p ∈ l, 0 ≤ p.2) → 0 ≤ (l.map (fun p => if p.1 = t then p.2 else 0)).sum := by
          intro l
          induction l with
          | nil => simp
          | cons p l ih2 =>
            intro h
            simp only [List.map_cons, List.sum_cons]
            have := ih2 (fun q hq => h q (by simp [hq]))
            have := h p (by simp)
            split <;> omega
        exact key _ (fun p hp => by have := hw p.2 (by simp [(List.of_mem_zip hp).2]); omega)
      rcases List.mem_cons.1 ht with rfl | h
      · simp; omega
      · have := ih (by simpa using hl) (fun y hy => hw y (by simp [hy])) h
        split <;> omega
theorem top_mem (g : List Int) (hg : ∀ x ∈ g, 0 ≤ x) : top g = 0 ∨ top g - 1 ∈ g := by
  have key : ∀ (l : List Int) (a : Int), l.foldl (fun n x => if n < x + 1 then x + 1 else n) a = a ∨ l.foldl (fun n x => if n < x + 1 then x + 1 else n) a - 1 ∈ l := by
    intro l
    induction l with
    | nil => intro a; exact .inl rfl
    | cons x l ih =>
      intro a
      rw [List.foldl_cons]
      rcases ih (if a < x + 1 then x + 1 else a) with h | h
      · rw [h]
        split
        · exact .inr (by simp)
        · exact .inl rfl
      · exact .inr (by simp [h])
  exact key g 0

end Go.Proofs.Ytiochiokcefbkaa
