
/- The walks that look for an office. -/
import Derived.Test.YthmngaioimohaaaNt4
import Derived.Test.YthmngaioimohaaaNtO
import Derived.Test.YthmngaioimohaaaNtMath3
namespace Go.Proofs.Ythmngaioimohaaa
open Go.RowKit
set_option linter.unusedVariables false

def offZ (rs : List Off) (p : ByteArray) : Int := match offI rs p with | some i => (i : Int) | none => -1
theorem offZ_at {rs : List Off} {p : ByteArray} {k : Nat} {r : Off} (hk : rs[k]? = some r) (he : r.1 = p) (hb : ∀ j, j < k → ∀ q, rs[j]? = some q → q.1 ≠ p) : offZ rs p = k := by rw [offZ, offI_at hk he hb]
theorem offZ_none {rs : List Off} {p : ByteArray} (hb : ∀ j, j < rs.length → ∀ q, rs[j]? = some q → q.1 ≠ p) : offZ rs p = -1 := by rw [offZ, offI_none hb]
theorem offZ_cases (rs : List Off) (p : ByteArray) : (offZ rs p = -1 ∧ offI rs p = none) ∨ ∃ (i : Nat) (r : Off), offZ rs p = i ∧ offI rs p = some i ∧ rs[i]? = some r ∧ r.1 = p ∧ i < rs.length ∧ ∀ j, j < i → ∀ q, rs[j]? = some q → q.1 ≠ p := by
  cases h : offI rs p with
  | none => exact .inl ⟨by rw [offZ, h], rfl⟩
  | some i =>
    obtain ⟨r, h1, h2, h3, h4⟩ := offI_some h
    exact .inr ⟨i, r, by rw [offZ, h], rfl, h1, h2, h3, h4⟩
/-- The first office with its name, or not. -/
theorem off_first {rs : List Off} {k : Nat} {x : Off} (hx : rs[k]? = some x) : (offZ rs x.1 = k ∧ ∀ j, j < k → ∀ y, rs[j]? = some y → y.1 ≠ x.1) ∨ (offZ rs x.1 ≠ k ∧ ∃ j y, j < k ∧ rs[j]? = some y ∧ y.1 = x.1) := by
  by_cases h : ∃ j y, j < k ∧ rs[j]? = some y ∧ y.1 = x.1
  · obtain ⟨j, y, h1, h2, h3⟩ := h
    refine .inr ⟨fun e => ?_, j, y, h1, h2, h3⟩
    rcases offZ_cases rs x.1 with ⟨e1, _⟩ | ⟨i, r, e1, _, _, _, _, e2⟩
    · omega
    · have : i = k := by omega
      subst this
      exact e2 j h1 y h2 h3
  · have h' : ∀ j, j < k → ∀ y, rs[j]? = some y → y.1 ≠ x.1 := fun j hj y hy he => h ⟨j, y, hj, hy, he⟩
    exact .inl ⟨offZ_at hx rfl h', h'⟩
/-- .. in the first k ones. -/
theorem off_take {rs : List Off} {k : Nat} (hk : k ≤ rs.length) (p : ByteArray) : (offZ (rs.take k) p < 0 ∧ ∀ j, j < k → ∀ y, rs[j]? = some y → y.1 ≠ p) ∨ (0 ≤ offZ (rs.take k) p ∧ ∃ j y, j < k ∧ rs[j]? = some y ∧ y.1 = p) := by
  rcases offZ_cases (rs.take k) p with ⟨e1, e2⟩ | ⟨i, r, e1, _, h1, h2, h3, _⟩
  · refine .inl ⟨by omega, fun j hj y hy => offI_no e2 y (List.mem_of_getElem? (i := j) (by rw [List.getElem?_take_of_lt hj]; exact hy))⟩
  · have hik : i < k := by rw [List.length_take] at h3; omega
    exact .inr ⟨by omega, i, r, hik, by rwa [List.getElem?_take_of_lt hik] at h1, h2⟩
theorem InO.take {w : World} {A : Option Addr} {n c : Nat} {net : List Off} (h : InO w (.slice A n c) net) {k : Nat} (hk : k ≤ net.length) : InO w (.slice A k c) (net.take k) := by
  obtain ⟨ps, ⟨A', c', e, hA, h1, h2⟩, h3⟩ := h
  injection e with e1 e2 e3
  subst e1 e2 e3
  have hl := h3.len
  have e : (ps.take k).length = k := by rw [List.length_take]; omega
  refine ⟨ps.take k, ⟨A, c, by rw [e], ?_, by omega, h2⟩, by simp [hl], fun i p o a b => ?_⟩
  · rw [← cs2_take]; exact hA.take _
  · have hik : i < k := by
      have := (List.getElem?_eq_some_iff.1 a).1
      rw [List.length_take] at this; omega
    rw [List.getElem?_take_of_lt hik] at a b
    exact h3.row i p o a b
theorem off_snoc {rs : List Off} {k : Nat} {x : Off} {p : ByteArray} (h : ∀ j, j < k → ∀ y, rs[j]? = some y → y.1 ≠ p) (hx : rs[k]? = some x) (hn : x.1 ≠ p) : ∀ j, j < k + 1 → ∀ y, rs[j]? = some y → y.1 ≠ p := by
  intro j hj y hy
  rcases Nat.lt_or_ge j k with hl | hl
  · exact h j hl y hy
  · have : j = k := by omega
    subst this
    rw [hx] at hy
    injection hy with hy
    subst hy; exact hn
set_option maxRecDepth 100000 in
set_option maxHeartbeats 800000 in
theorem spec_off (v : Value) (net : List Off) (p : ByteArray) (w : World) (h : InO w v net) :
    Calls Try.prog 24 #[v, .string p] w fun e w' => e = .returned (.int .i64 (offZ net p)) ∧ Below w.heap.size w w' := by
  have H := Lib.hid h
  obtain ⟨A, c, rfl, hc1, hc2⟩ := h.form
  unfold maxLen at hc2
  clear h
  go_enter Try.func24, Try.ntmps24
  go_wp2_with fail
  go_loopw [5] (fun i wr => ∃ k : Nat, k ≤ net.length ∧ i = .int .i64 k ∧ Hid (Below w.heap.size w wr) ∧ Hid (∀ m, m < k → ∀ y, net[m]? = some y → y.1 ≠ p)) (fun i _ => net.length - (intOf i).toNat)
  case atStart => exact ⟨0, Nat.zero_le _, rfl, Lib.hid (Below.refl _ _), Lib.hid (by intro m hm; omega)⟩
  case round =>
    obtain ⟨k, hk, rfl, Hb, hne⟩ := hrel
    by_cases hlt : k < net.length
    · obtain ⟨ad, x, u, rfl, hx, hcA, hcB, hru⟩ := (H.out.below Hb.out).at_ hlt
      obtain ⟨UA, uc, rfl, hu1, hu2, hu3⟩ := hru
      have Hx := Lib.hid hx
      clear hx hu1
      by_cases he : x.1 = p
      · have e1 := str_same he
        have Hyes := Lib.hid (offZ_at Hx.out he hne.out)
        clear he hne
        go_wp2_with fail
        go_ret
        exact ⟨ret_int Hyes.out.symm, Hb.out⟩
      · have e1 := str_diff he
        have Hne : Hid (∀ m, m < k + 1 → ∀ y, net[m]? = some y → y.1 ≠ p) := Lib.hid (off_snoc hne.out Hx.out he)
        clear he hne
        go_wp2_with fail
        go_roundw
        case rel => exact ⟨k + 1, by omega, by go_num, Lib.hid (Hb.out), Hne⟩
        case measure => simp [intOf]; omega
    · have hk' : k = net.length := by omega
      subst hk'
      have Hno := Lib.hid (offZ_none hne.out)
      clear hne
      go_wp2_with fail
      go_ret
      exact ⟨ret_int Hno.out.symm, Hb.out⟩
set_option maxRecDepth 100000 in
set_option maxHeartbeats 800000 in
theorem impl_off (v : Value) (net : List Off) (p : ByteArray) (w : World) (h : InO w v net) :
    Calls Try.prog 29 #[v, .string p] w fun e w' => e = .returned (.int .i64 (offZ net p)) ∧ Below w.heap.size w w' := by
  have H := Lib.hid h
  obtain ⟨A, c, rfl, hc1, hc2⟩ := h.form
  unfold maxLen at hc2
  clear h
  go_enter Try.func29, Try.ntmps29
  go_wp2_with fail
  go_loopw [9] (fun i wr => ∃ k : Nat, k ≤ net.length ∧ i = .int .i64 k ∧ Hid (Below w.heap.size w wr) ∧ Hid (∀ m, m < k → ∀ y, net[m]? = some y → y.1 ≠ p)) (fun i _ => net.length - (intOf i).toNat)
  case atStart => exact ⟨0, Nat.zero_le _, rfl, Lib.hid (Below.refl _ _), Lib.hid (by intro m hm; omega)⟩
  case round =>
    obtain ⟨k, hk, rfl, Hb, hne⟩ := hrel
    by_cases hlt : k < net.length
    · obtain ⟨ad, x, u, rfl, hx, hcA, hcB, hru⟩ := (H.out.below Hb.out).at_ hlt
      obtain ⟨UA, uc, rfl, hu1, hu2, hu3⟩ := hru
      have Hx := Lib.hid hx
      clear hx hu1
      by_cases he : x.1 = p
      · have e1 := str_same he
        have Hyes := Lib.hid (offZ_at Hx.out he hne.out)
        clear he hne
        go_wp2_with fail
        go_ret
        exact ⟨ret_int Hyes.out.symm, Hb.out.alloc Hb.out.size _⟩
      · have e1 := str_diff he
        have Hne : Hid (∀ m, m < k + 1 → ∀ y, net[m]? = some y → y.1 ≠ p) := Lib.hid (off_snoc hne.out Hx.out he)
        clear he hne
        go_wp2_with fail
        go_roundw
        case rel => exact ⟨k + 1, by omega, by go_num, Lib.hid (Hb.out.alloc Hb.out.size _), Hne⟩
        case measure => simp [intOf]; omega
    · have hk' : k = net.length := by omega
      subst hk'
      have Hno := Lib.hid (offZ_none hne.out)
      clear hne
      go_wp2_with fail
      go_ret
      exact ⟨ret_int Hno.out.symm, Hb.out⟩

theorem okO_name {net : List Off} {o : Off} (h : nameB o.1 = false) : okO net o = false := by simp [okO, h]
theorem okO_here {net : List Off} {o : Off} (h : o.1 = here) : okO net o = false := by simp [okO, h]
theorem okO_rules {net : List Off} {o : Off} (h : rv o.2 = false) : okO net o = false := by simp [okO, h]
theorem okO_next {net : List Off} {o : Off} {k : Nat} {r : Rul} (hk : o.2[k]? = some r) (h1 : r.2 ≠ here) (h2 : offI net r.2 = none) : okO net o = false := by
  cases h : okO net o with
  | false => rfl
  | true =>
    rcases (okO_iff.1 h).2.2.2 r (List.mem_of_getElem? hk) with h3 | ⟨j, h3⟩
    · exact absurd h3 h1
    · rw [h2] at h3; cases h3
/-- The next offices of the first k rules are there. -/
def Nxts (net : List Off) (rs : List Rul) (k : Nat) : Prop := ∀ j, j < k → ∀ r, rs[j]? = some r → r.2 = here ∨ ∃ i, offI net r.2 = some i
theorem nxts_zero (net : List Off) (rs : List Rul) : Nxts net rs 0 := fun j hj => by omega
theorem nxts_step {net : List Off} {rs : List Rul} {k : Nat} {r : Rul} (h : Nxts net rs k) (hr : rs[k]? = some r) (h1 : r.2 = here ∨ ∃ i, offI net r.2 = some i) : Nxts net rs (k + 1) := fun j hj x hx => by
  rcases Nat.lt_or_ge j k with hl | hl
  · exact h j hl x hx
  · have : j = k := by omega
    subst this
    rw [hr] at hx
    injection hx with hx
    subst hx; exact h1
theorem okO_yes {net : List Off} {o : Off} (h1 : nameB o.1 = true) (h2 : o.1 ≠ here) (h3 : rv o.2 = true) (h4 : Nxts net o.2 o.2.length) : okO net o = true := by
  rw [okO_iff]
  refine ⟨h1, h2, h3, fun r hr => ?_⟩
  obtain ⟨j, hj⟩ := List.getElem?_of_mem hr
  exact h4 j (List.getElem?_eq_some_iff.1 hj).1 r hj

end Go.Proofs.Ythmngaioimohaaa
