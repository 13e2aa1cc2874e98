
/- The walks of what fills trays. -/
import Derived.Test.YtefgfdehinpbaaaTyFill
import Derived.Deep.RegionHeld3
import Derived.Deep.RegionLaw
import Derived.BigRegion
import Derived.Deep.DrawnRows
namespace Go.Proofs.Ytefgfdehinpbaaa
open Go.RowKit
set_option linter.unusedVariables false
attribute [local go_sem ↓] Go.wp_at_zero Go.wp_at_succ

/-- An empty tray in a block of its own, and the block that holds it. -/
theorem new_empty (wq : World) : Below wq.heap.size wq ((wq.alloc (.cells #[] 44)).alloc (.cells #[.slice (some ⟨wq.heap.size, 0, none⟩) 0 0] 36)) ∧
    Own ((wq.alloc (.cells #[] 44)).alloc (.cells #[.slice (some ⟨wq.heap.size, 0, none⟩) 0 0] 36)) wq.heap.size ((wq.alloc (.cells #[] 44)).alloc (.cells #[.slice (some ⟨wq.heap.size, 0, none⟩) 0 0] 36)).heap.size 44 2 (.slice (some ⟨wq.heap.size, 0, none⟩) 0 0) 0 (lcs []) ∧
    Rd ((wq.alloc (.cells #[] 44)).alloc (.cells #[.slice (some ⟨wq.heap.size, 0, none⟩) 0 0] 36)) (some ⟨wq.heap.size + 1, 0, none⟩) [.slice (some ⟨wq.heap.size, 0, none⟩) 0 0] := by
  refine ⟨below2 _ _ _, ?_, ?_⟩
  · exact ((own_lit0 wq).below ((Below.refl _ _).alloc (Nat.le_refl _) _)).wide (Nat.le_refl _) (by simp)
  · have := rd_new (wq.alloc (.cells #[] 44)) [.slice (some ⟨wq.heap.size, 0, none⟩) 0 0] 36
    simpa using this
theorem own_pos' {w : World} {base : Nat} {e : TypeId} {size : Nat} {v : Value} {n : Nat} {cs : List Value} (h : w.ownsRow base e size v n cs) (hn : 0 < n) : ∃ g cp, v = .slice (some ⟨g, 0, none⟩) n cp ∧ base ≤ g := by
  rcases h.2 with ⟨_, h0⟩ | ⟨g, cap, cur, hv, hb, _⟩
  · omega
  · exact ⟨g, cap, hv, hb⟩
theorem snoc_at {α : Type} {l : List α} {a : α} {n : Nat} (h : n = l.length) : (l ++ [a])[n]? = some a := by subst h; simp
theorem snoc_set {α : Type} {l : List α} {a b : α} {n : Nat} (h : n = l.length) : (l ++ [a]).set n b = l ++ [b] := by subst h; simp
theorem lcs_snoc (t : List Ltr) (x : Ltr) : lcs (t ++ [x]) = lcs t ++ lcs [x] := cs2_append _ _
theorem two_at {w : World} {ad : Addr} {xs : List Ltr} {k : Nat} {x : Ltr} (h : Rd w (some ad) (lcs xs)) (hx : xs[k]? = some x) : w.cell? (ad.add (k * 2)) = some (.int .i64 x.1) ∧ w.cell? ⟨(ad.add (k * 2)).block, (ad.add (k * 2)).off + 1, none⟩ = some (.string x.2) := by
  obtain ⟨ad', x', e, hx', a, b⟩ := h.two (List.getElem?_eq_some_iff.1 hx).1
  injection e with e
  subst e
  rw [hx] at hx'
  injection hx' with hx'
  subst hx'
  exact ⟨a, b⟩
/-- The cells that a round's last statement reads. -/
theorem tri {w : World} {lo g cp n m k : Nat} {us : List Value} {u : Value} {ad : Addr} {xs : List Ltr} {x : Ltr} (ho : w.ownsRow lo 36 1 (.slice (some ⟨g, 0, none⟩) n cp) n us) (hm : m < n) (hu : us[m]? = some u) (h : Rd w (some ad) (lcs xs)) (hx : xs[k]? = some x) :
    w.cell? ⟨g, m, none⟩ = some u ∧ w.cell? (ad.add (k * 2)) = some (.int .i64 x.1) ∧ w.cell? ⟨(ad.add (k * 2)).block, (ad.add (k * 2)).off + 1, none⟩ = some (.string x.2) := by
  obtain ⟨a, b⟩ := two_at h hx
  exact ⟨(ho.cellAt m (by omega)).trans hu, a, b⟩
end Go.Proofs.Ytefgfdehinpbaaa
