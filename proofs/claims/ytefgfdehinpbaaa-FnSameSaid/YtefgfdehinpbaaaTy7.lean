
/- The walks of EmptyTrays, FindLetter and TrayOf. -/
import Derived.Test.YtefgfdehinpbaaaTy6
namespace Go.Proofs.Ytefgfdehinpbaaa
open Go.RowKit
set_option linter.unusedVariables false

/-- The letters of trays, in order. -/
def emp (xss : List (List Ltr)) : List Ltr := if tv xss 20 then xss.flatten else []
theorem emp_no {xss : List (List Ltr)} (h : tv xss 20 = false) : emp xss = [] := by simp [emp, h]
theorem emp_yes {xss : List (List Ltr)} (h : tv xss 20 = true) : emp xss = xss.flatten := by simp [emp, h]
theorem flat_small {xss : List (List Ltr)} {size : Int} (h : tv xss size = true) : xss.flatten.length ≤ 60 := (bv_parts (tv_parts h).2.2.2).1
theorem own_lit0 (w : World) : Own (w.alloc (.cells #[] 44)) w.heap.size (w.alloc (.cells #[] 44)).heap.size 44 2 (.slice (some ⟨w.heap.size, 0, none⟩) 0 0) 0 (lcs []) := own_of (World.ownsRow_lit w #[] 0 (Nat.le_refl _) (Nat.zero_le _) rfl)

theorem emp_own {w : World} {lo hi : Nat} {u : Value} {xss : List (List Ltr)} (he : emp xss = []) (h : Own w lo hi 44 2 u 0 (lcs [])) : Own w lo hi 44 2 u (emp xss).length (lcs (emp xss)) := by rw [he]; exact h
theorem tup_q {u : Value} {e : Ending} {a b : Bool} (h : a = b) (he : e = .returned (.tuple #[u, .bool b])) : e = .returned (.tuple #[u, .bool a]) := by rw [h]; exact he
theorem ne_snoc {xs : List Ltr} {k : Nat} {x : Ltr} {id : Int} (h : ∀ j, j < k → ∀ y, xs[j]? = some y → y.1 ≠ id) (hx : xs[k]? = some x) (hn : x.1 ≠ id) : ∀ j, j < k + 1 → ∀ y, xs[j]? = some y → y.1 ≠ id := by
  intro m hm z hz
  rcases Nat.lt_or_ge m k with h1 | h1
  · exact h m h1 z hz
  · have : m = k := by omega
    subst this
    rw [hx] at hz
    injection hz with hz
    subst hz; exact hn
set_option maxRecDepth 100000 in
set_option maxHeartbeats 1000000 in
theorem impl_find (v : Value) (xs : List Ltr) (id : Int) (w : World) (h : Lt w v xs) (hs : Szs xs) :
    Calls Try.prog 53 #[v, .int .i64 id] w fun e w' => e = .returned (.int .i64 (findI xs id)) ∧ Below w.heap.size w w' := by
  have hbv := impl_bv v xs w h hs
  have Hbv := Lib.hid hbv
  clear hbv
  obtain ⟨A, c, rfl, hA, hc1, hc2⟩ := h
  unfold maxLen at hc2
  have HA := Lib.hid hA
  clear hs hA
  go_enter Try.func53, Try.ntmps53
  go_wp2_with fail
  refine Hbv.out.mono ?_
  rintro e w2 ⟨rfl, hb⟩
  have Hb0 := Lib.hid hb
  clear Hbv hb
  cases hcv : bv xs with
  | false =>
    have Hno := Lib.hid (findI_no (id := id) hcv)
    clear hcv
    go_wp2_with fail
    go_ret
    exact ⟨ret_int Hno.out.symm, Hb0.out⟩
  | true =>
    have Hcv := Lib.hid hcv
    clear hcv
    go_wp2_with fail
    go_loopw [12] (fun i wr => ∃ k : Nat, k ≤ xs.length ∧ i = .int .i64 k ∧ Hid (Below w.heap.size w wr) ∧ Hid (∀ m, m < k → ∀ y, xs[m]? = some y → y.1 ≠ id)) (fun i _ => xs.length - (intOf i).toNat)
    case atStart => exact ⟨0, Nat.zero_le _, rfl, Hb0, Lib.hid (by intro m hm; omega)⟩
    case round =>
      clear Hb0
      obtain ⟨k, hk, rfl, Hb, hne⟩ := hrel
      by_cases hlt : k < xs.length
      · obtain ⟨ad, x, rfl, hx, hcA, hcB⟩ := (HA.out.below Hb.out).two hlt
        have Hx := Lib.hid hx
        simp only [ltf] at hcA hcB
        clear hx
        by_cases he : x.1 = id
        · have e1 : (x.1 == id) = true := by simp [he]
          have Hyes := Lib.hid (findI_at Hcv.out Hx.out he hne.out)
          clear he hne
          go_wp2_with fail
          go_ret
          exact ⟨ret_int Hyes.out.symm, Hb.out.alloc Hb.out.size _⟩
        · have e1 : (x.1 == id) = false := by simp [he]
          have Hne : Hid (∀ m, m < k + 1 → ∀ y, xs[m]? = some y → y.1 ≠ id) := Lib.hid (ne_snoc hne.out Hx.out he)
          clear he hne
          go_wp2_with fail
          go_roundw
          case rel => exact ⟨k + 1, by omega, by go_num, Lib.hid (Hb.out.alloc Hb.out.size _), Hne⟩
          case measure => simp [intOf]; omega
      · have hk' : k = xs.length := by omega
        subst hk'
        have Hno := Lib.hid (findI_none hne.out)
        clear hne
        go_wp2_with fail
        go_ret
        exact ⟨ret_int Hno.out.symm, Hb.out⟩

/-- The tray that holds a letter. -/
def trayI (xss : List (List Ltr)) (id : Int) : Int := if tv xss 20 then (match xss.findIdx? (fun t => decide (0 ≤ findI t id)) with | some i => (i : Int) | none => -1) else -1
theorem trayI_no {xss : List (List Ltr)} {id : Int} (h : tv xss 20 = false) : trayI xss id = -1 := by simp [trayI, h]
theorem trayI_at {xss : List (List Ltr)} {id : Int} (h : tv xss 20 = true) {k : Nat} {t : List Ltr} (hx : xss[k]? = some t) (he : 0 ≤ findI t id) (hb : ∀ j, j < k → ∀ y, xss[j]? = some y → findI y id < 0) : trayI xss id = (k : Int) := by
  have hk : k < xss.length := (List.getElem?_eq_some_iff.1 hx).1
  have h2 : xss.findIdx? (fun t => decide (0 ≤ findI t id)) = some k := by
    rw [List.findIdx?_eq_some_iff_getElem]
    refine ⟨hk, ?_, ?_⟩
    · have : xss[k] = t := (List.getElem?_eq_some_iff.1 hx).2
      rw [this]; exact decide_eq_true he
    · intro j hj
      have := hb j hj _ (List.getElem?_eq_getElem (by omega))
      simp; omega
  simp [trayI, h, h2]
theorem trayI_none {xss : List (List Ltr)} {id : Int} (hb : ∀ j, j < xss.length → ∀ y, xss[j]? = some y → findI y id < 0) : trayI xss id = -1 := by
  have h2 : xss.findIdx? (fun t => decide (0 ≤ findI t id)) = none := by
    rw [List.findIdx?_eq_none_iff]
    intro t ht
    obtain ⟨j, hj⟩ := List.getElem?_of_mem ht
    have := hb j (List.getElem?_eq_some_iff.1 hj).1 t hj
    simp; omega
  simp [trayI, h2]
theorem lt_snoc {xss : List (List Ltr)} {k : Nat} {x : List Ltr} {id : Int} (h : ∀ j, j < k → ∀ y, xss[j]? = some y → findI y id < 0) (hx : xss[k]? = some x) (hn : findI x id < 0) : ∀ j, j < k + 1 → ∀ y, xss[j]? = some y → findI y id < 0 := by
  intro m hm z hz
  rcases Nat.lt_or_ge m k with h1 | h1
  · exact h m h1 z hz
  · have : m = k := by omega
    subst this
    rw [hx] at hz
    injection hz with hz
    subst hz; exact hn

end Go.Proofs.Ytefgfdehinpbaaa
