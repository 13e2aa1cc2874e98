/- Plain lists: weights given to the first truck with room. No program in sight. -/
import Derived.Test.YtiochiokcefbkaaTkMath
namespace Go.Proofs.Ytiochiokcefbkaa
open Go.RowKit
set_option linter.unusedVariables false

/-- The first truck with room for a weight. -/
def room (ld : List Int) (x cap : Int) : Nat := ld.findIdx (fun l => decide (l + x ≤ cap))
theorem room_before {ld : List Int} {x cap : Int} {t : Nat} (h : t < room ld x cap) : ∃ y, ld[t]? = some y ∧ cap < y + x := by
  have hl : t < ld.length := Nat.lt_of_lt_of_le h List.findIdx_le_length
  refine ⟨ld[t], List.getElem?_eq_getElem hl, ?_⟩
  have := List.not_of_lt_findIdx h
  simp at this
  omega
theorem room_at {ld : List Int} {x cap : Int} (h : room ld x cap < ld.length) : ∃ y, ld[room ld x cap]? = some y ∧ y + x ≤ cap := by
  refine ⟨ld[room ld x cap]'h, List.getElem?_eq_getElem h, ?_⟩
  have := List.findIdx_getElem (p := fun l => decide (l + x ≤ cap)) (w := h)
  exact of_decide_eq_true this
theorem room_le {ld : List Int} {x cap y : Int} {j : Nat} (h : ld[j]? = some y) (hy : y + x ≤ cap) : room ld x cap ≤ j := by
  apply Nat.le_of_not_lt
  intro hlt
  obtain ⟨z, hz, hc⟩ := room_before hlt
  rw [h] at hz
  injection hz with hz
  omega

/-- One weight, by its index, given to the first truck with room: the loads and the loading behind it. -/
def fitStep (w : List Int) (cap : Int) (st : List Int × List Int) (i : Nat) : List Int × List Int :=
  (st.1.set (room st.1 (w.getD i 0) cap) (st.1.getD (room st.1 (w.getD i 0) cap) 0 + w.getD i 0), st.2.set i (room st.1 (w.getD i 0) cap : Int))
def fitAll (w : List Int) (cap : Int) (order : List Nat) : List Int × List Int := order.foldl (fitStep w cap) (List.replicate w.length 0, List.replicate w.length 0)
theorem fit_snoc {w : List Int} {cap : Int} {order : List Nat} {k i : Nat} (h : order[k]? = some i) : fitAll w cap (order.take (k + 1)) = fitStep w cap (fitAll w cap (order.take k)) i := by
  rw [fitAll, fitAll, take_snoc h, List.foldl_append]; rfl

/-- What holds behind j weights. -/
structure FitInv (w : List Int) (cap : Int) (st : List Int × List Int) (j : Nat) : Prop where
  len1 : st.1.length = w.length
  len2 : st.2.length = w.length
  bd : ∀ y ∈ st.1, 0 ≤ y ∧ y ≤ cap
  zero : ∀ k, j ≤ k → k < w.length → st.1[k]? = some 0
  gbd : ∀ g ∈ st.2, 0 ≤ g ∧ g < max 1 (w.length : Int)

theorem fitInv_start (w : List Int) (cap : Int) (hc : 0 ≤ cap) : FitInv w cap (fitAll w cap []) 0 where
  len1 := by simp [fitAll]
  len2 := by simp [fitAll]
  bd := fun y hy => by have := List.eq_of_mem_replicate hy; omega
  zero := fun k _ hk => by simp [fitAll, hk]
  gbd := fun y hy => by have := List.eq_of_mem_replicate hy; omega

theorem fitInv_room {w : List Int} {cap x : Int} {st : List Int × List Int} {j : Nat} (h : FitInv w cap st j) (hj : j < w.length) (hx : 1 ≤ x ∧ x ≤ cap) : room st.1 x cap ≤ j :=
  room_le (h.zero j (Nat.le_refl _) hj) (by omega)

theorem fitInv_step {w : List Int} {cap : Int} {st : List Int × List Int} {j i : Nat} (h : FitInv w cap st j) (hj : j < w.length) (hi : i < w.length) (hx : 1 ≤ w.getD i 0 ∧ w.getD i 0 ≤ cap) :
    FitInv w cap (fitStep w cap st i) (j + 1) := by
  have hr := fitInv_room h hj hx
  have hrl : room st.1 (w.getD i 0) cap < st.1.length := by rw [h.len1]; omega
  obtain ⟨y, hy, hyc⟩ := room_at hrl
  have hyb := h.bd y (List.mem_of_getElem? hy)
  refine ⟨by simp [fitStep, h.len1], by simp [fitStep, h.len2], fun z hz => ?_, fun k hk hkl => ?_, fun z hz => ?_⟩
  · rcases List.mem_or_eq_of_mem_set hz with hz | rfl
    · exact h.bd z hz
    · rw [List.getD_eq_getElem?_getD, hy]; simp only [Option.getD_some]; omega
  · simp only [fitStep]
    rw [List.getElem?_set_ne (by omega)]
    exact h.zero k (by omega) hkl
  · rcases List.mem_or_eq_of_mem_set hz with hz | rfl
    · exact h.gbd z hz
    · omega

/-- All of it, for weights that are valid and no more indices than weights. -/
theorem fitInv_all {w : List Int} {cap : Int} (hw : wv w cap = true) (order : List Nat) (ho : ∀ i ∈ order, i < w.length) (hl : order.length ≤ w.length) (k : Nat) (hk : k ≤ order.length) :
    FitInv w cap (fitAll w cap (order.take k)) k := by
  obtain ⟨h1, _, h3, _⟩ := wv_parts hw
  induction k with
  | zero => exact fitInv_start w cap (by omega)
  | succ k ih =>
    have hi := List.getElem?_eq_getElem (l := order) (i := k) (by omega)
    rw [fit_snoc hi]
    have hil := ho _ (List.mem_of_getElem? hi)
    refine fitInv_step (ih (by omega)) (by omega) hil ?_
    rw [List.getD_eq_getElem?_getD, List.getElem?_eq_getElem hil]
    exact h1 _ (List.getElem_mem _)

end Go.Proofs.Ytiochiokcefbkaa
