
/- The walks of the functions on trays: copies, comparisons, sizes, marks. -/
import Derived.Test.YtefgfdehinpbaaaTy2
namespace Go.Proofs.Ytefgfdehinpbaaa
open Go.RowKit
set_option linter.unusedVariables false

/-- Trays that read. -/
def LtS (w : World) (v : Value) (xss : List (List Ltr)) : Prop := ∃ us, Sl w v us.length us ∧ SlRows Lt w us xss
/-- Trays of the call's own. -/
abbrev RowsL := Rows (β := List Ltr) 44 2 List.length lcs
def OLL (w : World) (lo hi : Nat) (v : Value) (xss : List (List Ltr)) : Prop := ∃ us, Own w lo hi 36 1 v us.length us ∧ RowsL w lo hi us xss
theorem LtS.below {w w' : World} {v : Value} {xss : List (List Ltr)} (h : LtS w v xss) (hb : Below w.heap.size w w') : LtS w' v xss := by
  obtain ⟨us, h1, h2⟩ := h
  exact ⟨us, h1.below hb, h2.mono fun u xs h => h.below hb⟩
theorem OLL.below {w w' : World} {lo hi : Nat} {v : Value} {xss : List (List Ltr)} (h : OLL w lo hi v xss) (hb : Below w.heap.size w w') : OLL w' lo hi v xss := by
  obtain ⟨us, h1, h2⟩ := h
  exact ⟨us, h1.below hb, h2.below hb⟩
theorem OLL.only {w w' : World} {lo hi lo' hi' : Nat} {v : Value} {xss : List (List Ltr)} (h : OLL w lo hi v xss) (hb : Only w w' lo' hi') (hd : hi ≤ lo' ∨ hi' ≤ lo) : OLL w' lo hi v xss := by
  obtain ⟨us, h1, h2⟩ := h
  exact ⟨us, h1.only hb hd, h2.only hb hd⟩
theorem OLL.lts {w : World} {lo hi : Nat} {v : Value} {xss : List (List Ltr)} (h : OLL w lo hi v xss) : LtS w v xss := by
  obtain ⟨us, h1, h2⟩ := h
  exact ⟨us, h1.sl, h2.len, fun i u xs a b => (h2.row i u xs a b).sl⟩
theorem LtS.len {w : World} {v : Value} {xss : List (List Ltr)} (h : LtS w v xss) : xss.length ≤ maxLen := by
  obtain ⟨us, h1, h2⟩ := h
  have := h1.le
  have := h2.len
  omega
theorem trays_info : (Try.prog.info? 36).map (fun i => (i.zero, i.size, i.bytes)) = some (some (.slice none 0 0), 1, 24) := by kernel_rfl
theorem made1 (z : Value) (n : Nat) (hz : z.cells = #[z]) : (madeCells z.cells (n * 1)).toList = List.replicate n z := by rw [hz, Nat.mul_one, made_toList]

/-- k rows are there, nil slices behind them. -/
def padN (us : List Value) (n : Nat) : List Value := us ++ List.replicate (n - us.length) (.slice none 0 0)
theorem padN_nil (n : Nat) : padN [] n = List.replicate n (.slice none 0 0) := by simp [padN]
theorem padN_length {us : List Value} {n : Nat} (h : us.length ≤ n) : (padN us n).length = n := by simp [padN]; omega
theorem padN_at {us : List Value} {n : Nat} (h : us.length < n) : (padN us n)[us.length]? = some (.slice none 0 0) := by
  rw [padN, List.getElem?_append_right (Nat.le_refl _), Nat.sub_self, List.getElem?_replicate, if_pos (by omega)]
theorem padN_set {us : List Value} {n : Nat} (u : Value) (h : us.length < n) : (padN us n).set us.length u = padN (us ++ [u]) n := by
  unfold padN
  rw [List.set_append_right _ _ (Nat.le_refl _), Nat.sub_self, List.length_append, List.length_cons, List.length_nil]
  have e : n - us.length = (n - (us.length + (0 + 1))) + 1 := by omega
  rw [e, List.replicate_succ, List.set_cons_zero, List.append_assoc]; rfl
theorem padN_full {us : List Value} : padN us us.length = us := by simp [padN]
theorem Rows.mem {β : Type} {e : TypeId} {size : Nat} {num : β → Nat} {cs : β → List Value} {w : World} {lo hi : Nat} {us : List Value} {xss : List β} (h : Rows e size num cs w lo hi us xss) {u : Value} (hu : u ∈ us) : ∃ xs, Own w lo hi e size u (num xs) (cs xs) := by
  obtain ⟨i, hi⟩ := List.getElem?_of_mem hu
  have hl := (List.getElem?_eq_some_iff.1 hi).1
  have hx := List.getElem?_eq_getElem (l := xss) (i := i) (by have := h.len; omega)
  exact ⟨_, h.row i u _ hi hx⟩
theorem Rows.push {β : Type} {e : TypeId} {size : Nat} {num : β → Nat} {cs : β → List Value} {w w' : World} {lo : Nat} {us : List Value} {xss : List β} (h : Rows e size num cs w lo w.heap.size us xss) (hb : Below w.heap.size w w') (hlo : lo ≤ w.heap.size) {u : Value} {xs : β} (ho : Own w' w.heap.size w'.heap.size e size u (num xs) (cs xs)) :
    Rows e size num cs w' lo w'.heap.size (us ++ [u]) (xss ++ [xs]) := by
  refine ((h.below hb).wide (Nat.le_refl _) hb.size).snoc (ho.wide hlo (Nat.le_refl _)) fun v hv => ?_
  obtain ⟨ys, hy⟩ := h.mem hv
  exact hy.gap ho (.inl (Nat.le_refl _))

/-- Letters and bytes of all trays. -/
def szss (xss : List (List Ltr)) : Nat := (xss.map fun xs => xs.length + szs xs).sum
theorem szss_snoc {xss : List (List Ltr)} {k : Nat} {xs : List Ltr} (h : xss[k]? = some xs) : szss (xss.take (k + 1)) = szss (xss.take k) + (xs.length + szs xs) := by
  rw [szss, take_snoc h, List.map_append, List.sum_append]; simp [szss]
theorem flat_take_le (xss : List (List Ltr)) (m : Nat) : (xss.take m).flatten.length ≤ xss.flatten.length := by
  have : xss.flatten = (xss.take m).flatten ++ (xss.drop m).flatten := by rw [← List.flatten_append, List.take_append_drop]
  rw [this, List.length_append]; omega
/-- Row i marked: what that does to the others. -/
theorem Rows.mark {w w' : World} {lo hi : Nat} {us : List Value} {xss : List (List Ltr)} (h : RowsL w lo hi us xss) {i : Nat} {u : Value} {xs ys : List Ltr} (hu : us[i]? = some u) (hx : xss[i]? = some xs) (hl : ys.length = xs.length) (ho : w'.ownsRow lo 44 2 u ys.length (lcs ys)) (hg : w.grownBy w' u.ownBlock) :
    RowsL w' lo hi us (xss.set i ys) := by
  have hset : us = us.set i u := by
    apply List.ext_getElem?
    intro j
    by_cases hj : i = j
    · subst hj; rw [List.getElem?_set_self (List.getElem?_eq_some_iff.1 hu).1, hu]
    · rw [List.getElem?_set_ne hj]
  have key := Rows.set (w' := w') h (k := i) (u := u) (xs := ys) ⟨ho, (h.row i u xs hu hx).top⟩ (fun j v zs hj hv hz => by
    have h1 := h.row j v zs hv hz
    refine ⟨h1.row.kept hg ?_, h1.top⟩
    have hap : Apart v u := by
      rcases Nat.lt_or_ge i j with h2 | h2
      · exact (h.apart i j u v h2 hu hv).symm
      · exact h.apart j i v u (by omega) hv hu
    exact apart_row hap) (fun j v hj hv => by
    rcases Nat.lt_or_ge i j with h2 | h2
    · exact (h.apart i j u v h2 hu hv).symm
    · exact h.apart j i v u (by omega) hv hu)
  rwa [← hset] at key

end Go.Proofs.Ytefgfdehinpbaaa
