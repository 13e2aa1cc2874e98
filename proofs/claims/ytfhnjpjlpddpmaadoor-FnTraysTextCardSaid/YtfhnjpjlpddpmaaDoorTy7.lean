
/- The walks of EmptyTrays, FindLetter and TrayOf. -/
import Derived.Test.YtfhnjpjlpddpmaaDoorTy6
namespace Go.Proofs.YtfhnjpjlpddpmaaDoor
open Go.RowKit
set_option linter.unusedVariables false

/-- The letters of trays, in order. -/
def emp (xss : List (List Ltr)) : List Ltr := if tv xss 20 then xss.flatten else []
theorem emp_no {xss : List (List Ltr)} (h : tv xss 20 = false) : emp xss = [] := by simp [emp, h]
theorem emp_yes {xss : List (List Ltr)} (h : tv xss 20 = true) : emp xss = xss.flatten := by simp [emp, h]
theorem flat_small {xss : List (List Ltr)} {size : Int} (h : tv xss size = true) : xss.flatten.length ≤ 60 := (bv_parts (tv_parts h).2.2.2).1
theorem own_lit0 (w : World) : Own (w.alloc (.cells #[] 35)) w.heap.size (w.alloc (.cells #[] 35)).heap.size 35 2 (.slice (some ⟨w.heap.size, 0, none⟩) 0 0) 0 (lcs []) := own_of (World.ownsRow_lit w #[] 0 (Nat.le_refl _) (Nat.zero_le _) rfl)

theorem emp_own {w : World} {lo hi : Nat} {u : Value} {xss : List (List Ltr)} (he : emp xss = []) (h : Own w lo hi 35 2 u 0 (lcs [])) : Own w lo hi 35 2 u (emp xss).length (lcs (emp xss)) := by rw [he]; exact h
theorem tup_q {u : Value} {e : Ending} {a b : Bool} (h : a = b) (he : e = .returned (.tuple #[u, .bool b])) : e = .returned (.tuple #[u, .bool a]) := by rw [h]; exact he
theorem ne_snoc {xs : List Ltr} {k : Nat} {x : Ltr} {id : Int} (h : ∀ j, j < k → ∀ y, xs[j]? = some y → y.1 ≠ id) (hx : xs[k]? = some x) (hn : x.1 ≠ id) : ∀ j, j < k + 1 → ∀ y, xs[j]? = some y → y.1 ≠ id := by
  intro m hm z hz
  rcases Nat.lt_or_ge m k with h1 | h1
  · exact h m h1 z hz
  · have : m = k := by omega
    subst this
    rw [hx] at hz
    injection hz with hz
    subst hz; exact hn
/-- The tray that holds a letter. -/
def trayI (xss : List (List Ltr)) (id : Int) : Int := if tv xss 20 then (match xss.findIdx? (fun t => decide (0 ≤ findI t id)) with | some i => (i : Int) | none => -1) else -1
theorem trayI_no {xss : List (List Ltr)} {id : Int} (h : tv xss 20 = false) : trayI xss id = -1 := by simp [trayI, h]
theorem trayI_at {xss : List (List Ltr)} {id : Int} (h : tv xss 20 = true) {k : Nat} {t : List Ltr} (hx : xss[k]? = some t) (he : 0 ≤ findI t id) (hb : ∀ j, j < k → ∀ y, xss[j]? = some y → findI y id < 0) : trayI xss id = (k : Int) := by
  have hk : k < xss.length := (List.getElem?_eq_some_iff.1 hx).1
  have h2 : xss.findIdx? (fun t => decide (0 ≤ findI t id)) = some k := by
    rw [List.findIdx?_eq_some_iff_getElem]
    refine ⟨hk, ?_, ?_⟩
    · have : xss[k] = t := (List.getElem?_eq_some_iff.1 hx).2
      rw [this]; exact decide_eq_true he
    · intro j hj
      have := hb j hj _ (List.getElem?_eq_getElem (by omega))
      simp; omega
  simp [trayI, h, h2]
theorem trayI_none {xss : List (List Ltr)} {id : Int} (hb : ∀ j, j < xss.length → ∀ y, xss[j]? = some y → findI y id < 0) : trayI xss id = -1 := by
  have h2 : xss.findIdx? (fun t => decide (0 ≤ findI t id)) = none := by
    rw [List.findIdx?_eq_none_iff]
    intro t ht
    obtain ⟨j, hj⟩ := List.getElem?_of_mem ht
    have := hb j (List.getElem?_eq_some_iff.1 hj).1 t hj
    simp; omega
  simp [trayI, h2]
theorem lt_snoc {xss : List (List Ltr)} {k : Nat} {x : List Ltr} {id : Int} (h : ∀ j, j < k → ∀ y, xss[j]? = some y → findI y id < 0) (hx : xss[k]? = some x) (hn : findI x id < 0) : ∀ j, j < k + 1 → ∀ y, xss[j]? = some y → findI y id < 0 := by
  intro m hm z hz
  rcases Nat.lt_or_ge m k with h1 | h1
  · exact h m h1 z hz
  · have : m = k := by omega
    subst this
    rw [hx] at hz
    injection hz with hz
    subst hz; exact hn

end Go.Proofs.YtfhnjpjlpddpmaaDoor
