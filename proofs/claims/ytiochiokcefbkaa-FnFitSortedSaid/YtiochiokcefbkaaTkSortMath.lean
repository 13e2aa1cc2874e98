/- Plain lists: indices sorted by insertion, the greatest weight first. No program in sight. -/
import Derived.Test.YtiochiokcefbkaaTkFitMath
namespace Go.Proofs.Ytiochiokcefbkaa
open Go.RowKit
set_option linter.unusedVariables false

/-- Where index i is put among the indices l: behind the last one, from place k down, whose weight is not less. -/
def downTo (w : List Int) (l : List Nat) (x : Int) : Nat → Nat
  | 0 => 0
  | k + 1 => if w.getD (l.getD k 0) 0 < x then downTo w l x k else k + 1
theorem downTo_le (w : List Int) (l : List Nat) (x : Int) : ∀ k, downTo w l x k ≤ k
  | 0 => Nat.le_refl _
  | k + 1 => by
    rw [downTo]; split
    · have := downTo_le w l x k; omega
    · exact Nat.le_refl _
theorem downTo_go {w : List Int} {l : List Nat} {x : Int} {k : Nat} (h : w.getD (l.getD k 0) 0 < x) : downTo w l x (k + 1) = downTo w l x k := by rw [downTo, if_pos h]
theorem downTo_stop {w : List Int} {l : List Nat} {x : Int} {k : Nat} (h : ¬ w.getD (l.getD k 0) 0 < x) : downTo w l x (k + 1) = k + 1 := by rw [downTo, if_neg h]
def insAt (l : List Nat) (k i : Nat) : List Nat := l.take k ++ i :: l.drop k
def insDesc (w : List Int) (l : List Nat) (i : Nat) : List Nat := insAt l (downTo w l (w.getD i 0) l.length) i
/-- The first k indices, sorted. -/
def sortedIx (w : List Int) : Nat → List Nat
  | 0 => []
  | k + 1 => insDesc w (sortedIx w k) k
theorem insAt_length (l : List Nat) (k i : Nat) : (insAt l k i).length = l.length + 1 := by
  simp only [insAt, List.length_append, List.length_take, List.length_cons, List.length_drop]; omega
theorem sortedIx_length (w : List Int) : ∀ k, (sortedIx w k).length = k
  | 0 => rfl
  | k + 1 => by rw [sortedIx, insDesc, insAt_length, sortedIx_length w k]
theorem insAt_mem {l : List Nat} {k i j : Nat} : j ∈ insAt l k i ↔ j = i ∨ j ∈ l := by
  rw [insAt, List.mem_append, List.mem_cons]
  constructor
  · rintro (h | h | h)
    · exact .inr (List.mem_of_mem_take h)
    · exact .inl h
    · exact .inr (List.mem_of_mem_drop h)
  · rintro (h | h)
    · exact .inr (.inl h)
    · rw [← List.take_append_drop k l, List.mem_append] at h
      rcases h with h | h
      · exact .inl h
      · exact .inr (.inr h)
theorem sortedIx_lt (w : List Int) : ∀ k, ∀ j ∈ sortedIx w k, j < k
  | 0, j, h => by simp [sortedIx] at h
  | k + 1, j, h => by
    rw [sortedIx, insDesc, insAt_mem] at h
    rcases h with rfl | h
    · omega
    · have := sortedIx_lt w k j h; omega
theorem insAt_perm (l : List Nat) (k i : Nat) : (insAt l k i).Perm (i :: l) := by
  rw [insAt]
  exact List.perm_middle.trans (by rw [List.take_append_drop])
theorem sortedIx_perm (w : List Int) : ∀ k, (sortedIx w k).Perm (List.range k)
  | 0 => List.Perm.refl _
  | k + 1 => by
    rw [sortedIx, insDesc, List.range_succ]
    exact (insAt_perm _ _ _).trans ((List.Perm.cons k (sortedIx_perm w k)).trans (List.perm_append_singleton k _).symm)

/-- The whole row in the midst of an insertion: index i stands at place j. -/
def midRow (s : List Nat) (i j n : Nat) : List Nat := insAt s j i ++ List.range' (i + 1) (n - (i + 1))
theorem midRow_length {s : List Nat} {i j n : Nat} (hs : s.length = i) (hn : i < n) : (midRow s i j n).length = n := by
  rw [midRow, List.length_append, insAt_length, List.length_range', hs]; omega
theorem insAt_at {s : List Nat} {i j : Nat} (hj : j ≤ s.length) : (insAt s j i)[j]? = some i := by
  rw [insAt, List.getElem?_append_right (by simp; omega)]
  simp [List.length_take, Nat.min_eq_left hj]
theorem insAt_before {s : List Nat} {i j k : Nat} (hk : k < j) (hj : j ≤ s.length) : (insAt s j i)[k]? = s[k]? := by
  rw [insAt, List.getElem?_append_left (by simp; omega), List.getElem?_take_of_lt hk]
theorem insAt_swap {s : List Nat} {i j y : Nat} (hj : j + 1 ≤ s.length) (hy : s[j]? = some y) : ((insAt s (j + 1) i).set (j + 1) y).set j i = insAt s j i := by
  obtain ⟨hlt, he⟩ := List.getElem?_eq_some_iff.1 hy
  have e1 : s.take (j + 1) = s.take j ++ [y] := take_snoc hy
  have e2 : s.drop j = y :: s.drop (j + 1) := by rw [List.drop_eq_getElem_cons hlt, he]
  have hl : (s.take j).length = j := by simp; omega
  rw [insAt, insAt, e1, e2, List.append_assoc]
  rw [List.set_append_right _ _ (by omega), List.set_append_right _ _ (by omega), hl]
  simp
theorem set_append_left' {α : Type} {a b : List α} {k : Nat} {x : α} (h : k < a.length) : (a ++ b).set k x = a.set k x ++ b := List.set_append_left _ _ h
theorem midRow_at {s : List Nat} {i j n : Nat} (hj : j ≤ s.length) : (midRow s i j n)[j]? = some i := by
  rw [midRow, List.getElem?_append_left (by rw [insAt_length]; omega), insAt_at hj]
theorem midRow_before {s : List Nat} {i j n k : Nat} (hk : k < j) (hj : j ≤ s.length) : (midRow s i j n)[k]? = s[k]? := by
  rw [midRow, List.getElem?_append_left (by rw [insAt_length]; omega), insAt_before hk hj]
theorem midRow_swap {s : List Nat} {i j y n : Nat} (hj : j + 1 ≤ s.length) (hy : s[j]? = some y) : ((midRow s i (j + 1) n).set (j + 1) y).set j i = midRow s i j n := by
  rw [midRow, midRow, set_append_left' (by rw [insAt_length]; omega), set_append_left' (by rw [List.length_set, insAt_length]; omega), insAt_swap hj hy]
/-- Before the insertion of i it stands behind the sorted ones. -/
theorem midRow_start {s : List Nat} {i n : Nat} (hs : s.length = i) (hn : i < n) : midRow s i i n = s ++ List.range' i (n - i) := by
  rw [midRow, insAt, List.take_of_length_le (by omega), List.drop_of_length_le (by omega)]
  have : n - i = (n - (i + 1)) + 1 := by omega
  rw [this, List.range'_succ]; simp
theorem midRow_done (w : List Int) {i n : Nat} (hn : i < n) : midRow (sortedIx w i) i (downTo w (sortedIx w i) (w.getD i 0) i) n = sortedIx w (i + 1) ++ List.range' (i + 1) (n - (i + 1)) := by
  rw [midRow, sortedIx, insDesc, sortedIx_length]

end Go.Proofs.Ytiochiokcefbkaa
