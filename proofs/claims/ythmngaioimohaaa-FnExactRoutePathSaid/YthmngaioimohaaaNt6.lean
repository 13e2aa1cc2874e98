
/- The walks of AddRule. -/
import Derived.Test.YthmngaioimohaaaNt4
import Derived.Test.YthmngaioimohaaaCopy
namespace Go.Proofs.Ythmngaioimohaaa
open Go.RowKit
set_option linter.unusedVariables false

def addL (rs : List Rul) (p n : ByteArray) : List Rul := match addR rs p n with | some l => l | none => []
def addB (rs : List Rul) (p n : ByteArray) : Bool := (addR rs p n).isSome
theorem addR_no1 {rs : List Rul} {p n : ByteArray} (h : rv rs = false) : addL rs p n = [] ∧ addB rs p n = false := by simp [addL, addB, addR, h]
theorem addR_no2 {rs : List Rul} {p n : ByteArray} (h : rv (putR rs p n) = false) : addL rs p n = [] ∧ addB rs p n = false := by simp [addL, addB, addR, h]
theorem addR_yes {rs : List Rul} {p n : ByteArray} (h1 : rv rs = true) (h : rv (putR rs p n) = true) : addL rs p n = putR rs p n ∧ addB rs p n = true := by simp [addL, addB, addR, h1, h]
theorem szs_le {m : Nat} : ∀ {xs : List Rul}, (∀ x ∈ xs, x.1.size + x.2.size ≤ m) → szs xs ≤ xs.length * m
  | [], _ => by simp [szs]
  | x :: xs, h => by
    have h1 := h x (by simp)
    have h2 := szs_le (xs := xs) fun y hy => h y (by simp [hy])
    have e : szs (x :: xs) = x.1.size + x.2.size + szs xs := by simp [szs]
    rw [e, List.length_cons, Nat.add_mul]; omega
theorem rv_sizes {xs : List Rul} (h : rv xs = true) : ∀ x ∈ xs, x.1.size ≤ 7 ∧ x.2.size ≤ 8 := fun x hx => by
  have hp := rv_parts h
  have h1 := (preB_parts (hp.pre x hx)).1
  have h2 := hp.name x hx
  refine ⟨h1, ?_⟩
  rcases Nat.lt_or_ge 8 x.2.size with h3 | h3
  · rw [nameB_low (.inr h3)] at h2; cases h2
  · exact h3
theorem rv_small {xs : List Rul} (h : rv xs = true) : SmR xs := by
  have hl := (rv_parts h).len
  have hb := szs_le (m := 15) fun x hx => by have := rv_sizes h x hx; omega
  exact ⟨by omega, by omega⟩
theorem rv_szr {xs : List Rul} (h : rv xs = true) : Szr xs := fun x hx => by have := rv_sizes h x hx; unfold maxLen; omega
theorem small_nil : SmR [] := ⟨by simp, by simp [szs]⟩
theorem addL_small (rs : List Rul) (p n : ByteArray) : SmR (addL rs p n) := by
  cases h1 : rv rs with
  | false => rw [(addR_no1 h1).1]; exact small_nil
  | true =>
    cases h : rv (putR rs p n) with
    | false => rw [(addR_no2 h).1]; exact small_nil
    | true => rw [(addR_yes h1 h).1]; exact rv_small h
theorem put_szr {rs : List Rul} {p n : ByteArray} (h : Szr rs) (hp : p.size ≤ maxLen) (hn : n.size ≤ maxLen) : Szr (putR rs p n) := by
  unfold putR
  split
  · intro x hx
    rcases List.mem_or_eq_of_mem_set hx with h1 | h1
    · exact h x h1
    · rw [h1]; exact ⟨hp, hn⟩
  · intro x hx
    rcases List.mem_append.1 hx with h1 | h1
    · exact h x h1
    · simp at h1; subst h1; exact ⟨hp, hn⟩
theorem put_none {rs : List Rul} {p n : ByteArray} (h : idxR rs p = none) : putR rs p n = rs ++ [(p, n)] := by rw [putR, h]
theorem put_some {rs : List Rul} {p n : ByteArray} {i : Nat} (h : idxR rs p = some i) : putR rs p n = rs.set i (p, n) := by rw [putR, h]
theorem rcs_set2 {xs : List Rul} {k : Nat} {x : Rul} (h : xs[k]? = some x) (s : ByteArray) : (rcs xs).set (k * 2 + 1) (.string s) = rcs (xs.set k (x.1, s)) := by
  obtain ⟨h0, h1⟩ := cs2_get (f := rtf) h
  have e : rcs (xs.set k (x.1, s)) = cs2 rtf (xs.set k (x.1, s)) := rfl
  rw [e, ← cs2_set]
  apply List.ext_getElem?
  intro j
  by_cases hj : k * 2 + 1 = j
  · subst hj
    have hl := (List.getElem?_eq_some_iff.1 h1).1
    rw [List.getElem?_set_self hl, List.getElem?_set_self (by rw [List.length_set]; exact hl)]
    rfl
  · rw [List.getElem?_set_ne hj, List.getElem?_set_ne hj]
    by_cases hj2 : k * 2 = j
    · subst hj2
      rw [List.getElem?_set_self (List.getElem?_eq_some_iff.1 h0).1, h0]
      rfl
    · rw [List.getElem?_set_ne hj2]
theorem own_lit0 (w : World) : Own (w.alloc (.cells #[] 50)) w.heap.size (w.alloc (.cells #[] 50)).heap.size 50 2 (.slice (some ⟨w.heap.size, 0, none⟩) 0 0) 0 (rcs []) := own_of (World.ownsRow_lit w #[] 0 (Nat.le_refl _) (Nat.zero_le _) rfl)

theorem ret_tup {u : Value} {a b : Bool} (h : a = b) : Ending.returned (.tuple #[u, .bool b]) = .returned (.tuple #[u, .bool a]) := by rw [h]
theorem nil_spec {w w10 : World} {L : List Rul} (h : L = []) (hb : Below w.heap.size w w10) : OR (w10.alloc (.cells #[] 50)) w.heap.size (w10.alloc (.cells #[] 50)).heap.size (.slice (some ⟨w10.heap.size, 0, none⟩) 0 0) L := by
  subst h; exact (own_lit0 w10).wide hb.size (Nat.le_refl _)
theorem nil_impl {w w10 : World} {L : List Rul} (h : L = []) : OR w10 w.heap.size w10.heap.size (.slice none 0 0) L := by
  subst h; exact own_nil _ _ _ _ _

end Go.Proofs.Ythmngaioimohaaa
