
/- The walks that look for a rule and of RulesValid. -/
import Derived.Test.YthmngaioimohaaaNt3
import Derived.Deep.RegionWith
namespace Go.Proofs.Ythmngaioimohaaa
open Go.RowKit
set_option linter.unusedVariables false

def idxI (rs : List Rul) (p : ByteArray) : Int := match idxR rs p with | some i => (i : Int) | none => -1
theorem idxI_at {rs : List Rul} {p : ByteArray} {k : Nat} {r : Rul} (hk : rs[k]? = some r) (he : r.1 = p) (hb : ∀ j, j < k → ∀ q, rs[j]? = some q → q.1 ≠ p) : idxI rs p = k := by rw [idxI, idxR_at hk he hb]
theorem idxI_none {rs : List Rul} {p : ByteArray} (hb : ∀ j, j < rs.length → ∀ q, rs[j]? = some q → q.1 ≠ p) : idxI rs p = -1 := by rw [idxI, idxR_none hb]
theorem idxI_cases (rs : List Rul) (p : ByteArray) : (idxI rs p = -1 ∧ idxR rs p = none) ∨ ∃ (i : Nat) (r : Rul), idxI rs p = i ∧ idxR rs p = some i ∧ rs[i]? = some r ∧ r.1 = p ∧ i < rs.length := by
  cases h : idxR rs p with
  | none => exact .inl ⟨by rw [idxI, h], rfl⟩
  | some i =>
    obtain ⟨r, h1, h2, h3⟩ := idxR_some h
    exact .inr ⟨i, r, by rw [idxI, h], rfl, h1, h2, h3⟩
/-- The first element with its prefix, or not. -/
theorem idx_first {rs : List Rul} {k : Nat} {x : Rul} (hx : rs[k]? = some x) : (idxI rs x.1 = k ∧ ∀ j, j < k → ∀ y, rs[j]? = some y → y.1 ≠ x.1) ∨ (idxI rs x.1 ≠ k ∧ ∃ j y, j < k ∧ rs[j]? = some y ∧ y.1 = x.1) := by
  by_cases h : ∃ j y, j < k ∧ rs[j]? = some y ∧ y.1 = x.1
  · obtain ⟨j, y, h1, h2, h3⟩ := h
    refine .inr ⟨fun e => ?_, j, y, h1, h2, h3⟩
    rcases idxI_cases rs x.1 with ⟨e1, _⟩ | ⟨i, r, e1, e2, _⟩
    · omega
    · have : i = k := by omega
      subst this
      rw [idxR, List.findIdx?_eq_some_iff_getElem] at e2
      obtain ⟨_, _, h4⟩ := e2
      have h5 := h4 j h1
      rw [(List.getElem?_eq_some_iff.1 h2).2] at h5
      simp [h3] at h5
  · have h' : ∀ j, j < k → ∀ y, rs[j]? = some y → y.1 ≠ x.1 := fun j hj y hy he => h ⟨j, y, hj, hy, he⟩
    exact .inl ⟨idxI_at hx rfl h', h'⟩
/-- .. in the first k ones. -/
theorem idx_take {rs : List Rul} {k : Nat} (hk : k ≤ rs.length) (p : ByteArray) : (idxI (rs.take k) p < 0 ∧ ∀ j, j < k → ∀ y, rs[j]? = some y → y.1 ≠ p) ∨ (0 ≤ idxI (rs.take k) p ∧ ∃ j y, j < k ∧ rs[j]? = some y ∧ y.1 = p) := by
  rcases idxI_cases (rs.take k) p with ⟨e1, e2⟩ | ⟨i, r, e1, _, h1, h2, h3⟩
  · refine .inl ⟨by omega, fun j hj y hy => idxR_no e2 y (List.mem_of_getElem? (i := j) (by rw [List.getElem?_take_of_lt hj]; exact hy))⟩
  · have hik : i < k := by rw [List.length_take] at h3; omega
    exact .inr ⟨by omega, i, r, hik, by rwa [List.getElem?_take_of_lt hik] at h1, h2⟩
theorem Rt.take {w : World} {A : Option Addr} {c : Nat} {xs : List Rul} (h : Rd w A (rcs xs)) {k : Nat} (hk : k ≤ xs.length) (h1 : xs.length ≤ c) (h2 : c ≤ maxLen) : Rt w (.slice A k c) (xs.take k) := by
  have e : (xs.take k).length = k := by rw [List.length_take]; omega
  refine ⟨A, c, by rw [e], ?_, by omega, h2⟩
  show Rd w A (cs2 rtf (xs.take k))
  rw [← cs2_take]; exact h.take _
theorem ne_snoc {rs : List Rul} {k : Nat} {x : Rul} {p : ByteArray} (h : ∀ j, j < k → ∀ y, rs[j]? = some y → y.1 ≠ p) (hx : rs[k]? = some x) (hn : x.1 ≠ p) : ∀ j, j < k + 1 → ∀ y, rs[j]? = some y → y.1 ≠ p := by
  intro j hj y hy
  rcases Nat.lt_or_ge j k with hl | hl
  · exact h j hl y hy
  · have : j = k := by omega
    subst this
    rw [hx] at hy
    injection hy with hy
    subst hy; exact hn
set_option maxRecDepth 100000 in
set_option maxHeartbeats 800000 in
theorem spec_idx (v : Value) (xs : List Rul) (p : ByteArray) (w : World) (h : Rt w v xs) :
    Calls Try.prog 43 #[v, .string p] w fun e w' => e = .returned (.int .i64 (idxI xs p)) ∧ Below w.heap.size w w' := by
  obtain ⟨A, c, rfl, hA, hc1, hc2⟩ := h
  unfold maxLen at hc2
  have HA := Lib.hid hA
  clear hA
  go_enter Try.func43, Try.ntmps43
  go_wp2_with fail
  go_loopw [5] (fun i wr => ∃ k : Nat, k ≤ xs.length ∧ i = .int .i64 k ∧ Hid (Below w.heap.size w wr) ∧ Hid (∀ m, m < k → ∀ y, xs[m]? = some y → y.1 ≠ p)) (fun i _ => xs.length - (intOf i).toNat)
  case atStart => exact ⟨0, Nat.zero_le _, rfl, Lib.hid (Below.refl _ _), Lib.hid (by intro m hm; omega)⟩
  case round =>
    obtain ⟨k, hk, rfl, Hb, hne⟩ := hrel
    by_cases hlt : k < xs.length
    · obtain ⟨ad, x, rfl, hx, hcA, hcB⟩ := (HA.out.below Hb.out).two hlt
      have Hx := Lib.hid hx
      simp only [rtf] at hcA hcB
      clear hx
      by_cases he : x.1 = p
      · have e1 := str_same he
        have Hyes := Lib.hid (idxI_at Hx.out he hne.out)
        clear he hne
        go_wp2_with fail
        go_ret
        exact ⟨ret_int Hyes.out.symm, Hb.out⟩
      · have e1 := str_diff he
        have Hne : Hid (∀ m, m < k + 1 → ∀ y, xs[m]? = some y → y.1 ≠ p) := Lib.hid (ne_snoc hne.out Hx.out he)
        clear he hne
        go_wp2_with fail
        go_roundw
        case rel => exact ⟨k + 1, by omega, by go_num, Lib.hid (Hb.out), Hne⟩
        case measure => simp [intOf]; omega
    · have hk' : k = xs.length := by omega
      subst hk'
      have Hno := Lib.hid (idxI_none hne.out)
      clear hne
      go_wp2_with fail
      go_ret
      exact ⟨ret_int Hno.out.symm, Hb.out⟩
set_option maxRecDepth 100000 in
set_option maxHeartbeats 800000 in
theorem impl_idx (v : Value) (xs : List Rul) (p : ByteArray) (w : World) (h : Rt w v xs) :
    Calls Try.prog 46 #[v, .string p] w fun e w' => e = .returned (.int .i64 (idxI xs p)) ∧ Below w.heap.size w w' := by
  obtain ⟨A, c, rfl, hA, hc1, hc2⟩ := h
  unfold maxLen at hc2
  have HA := Lib.hid hA
  clear hA
  go_enter Try.func46, Try.ntmps46
  go_wp2_with fail
  go_loopw [9] (fun i wr => ∃ k : Nat, k ≤ xs.length ∧ i = .int .i64 k ∧ Hid (Below w.heap.size w wr) ∧ Hid (∀ m, m < k → ∀ y, xs[m]? = some y → y.1 ≠ p)) (fun i _ => xs.length - (intOf i).toNat)
  case atStart => exact ⟨0, Nat.zero_le _, rfl, Lib.hid (Below.refl _ _), Lib.hid (by intro m hm; omega)⟩
  case round =>
    obtain ⟨k, hk, rfl, Hb, hne⟩ := hrel
    by_cases hlt : k < xs.length
    · obtain ⟨ad, x, rfl, hx, hcA, hcB⟩ := (HA.out.below Hb.out).two hlt
      have Hx := Lib.hid hx
      simp only [rtf] at hcA hcB
      clear hx
      by_cases he : x.1 = p
      · have e1 := str_same he
        have Hyes := Lib.hid (idxI_at Hx.out he hne.out)
        clear he hne
        go_wp2_with fail
        go_ret
        exact ⟨ret_int Hyes.out.symm, Hb.out.alloc Hb.out.size _⟩
      · have e1 := str_diff he
        have Hne : Hid (∀ m, m < k + 1 → ∀ y, xs[m]? = some y → y.1 ≠ p) := Lib.hid (ne_snoc hne.out Hx.out he)
        clear he hne
        go_wp2_with fail
        go_roundw
        case rel => exact ⟨k + 1, by omega, by go_num, Lib.hid (Hb.out.alloc Hb.out.size _), Hne⟩
        case measure => simp [intOf]; omega
    · have hk' : k = xs.length := by omega
      subst hk'
      have Hno := Lib.hid (idxI_none hne.out)
      clear hne
      go_wp2_with fail
      go_ret
      exact ⟨ret_int Hno.out.symm, Hb.out⟩

set_option maxRecDepth 100000 in
set_option maxHeartbeats 1000000 in
theorem spec_rv (v : Value) (xs : List Rul) (w : World) (h : Rt w v xs) (hs : Szr xs) :
    Calls Try.prog 25 #[v] w fun e w' => e = .returned (.bool (rv xs)) ∧ Below w.heap.size w w' := by
  have Hv := Lib.hid h
  have Hs := Lib.hid hs
  obtain ⟨A, c, rfl, hA, hc1, hc2⟩ := h
  unfold maxLen at hc2
  have HA := Lib.hid hA
  clear hs hA
  go_enter Try.func25, Try.ntmps25
  go_wp2_with fail
  go_loopw [3] (fun i wr => ∃ k : Nat, k ≤ xs.length ∧ i = .int .i64 k ∧ Hid (Below w.heap.size w wr) ∧ Hid (RvTo xs k)) (fun i _ => xs.length - (intOf i).toNat)
  case atStart => exact ⟨0, Nat.zero_le _, rfl, Lib.hid (Below.refl _ _), Lib.hid (rvTo_zero _)⟩
  case round =>
    obtain ⟨k, hk, rfl, Hb, hto⟩ := hrel
    by_cases hlt : k < xs.length
    · obtain ⟨ad, x, rfl, hx, hcA, hcB⟩ := (HA.out.below Hb.out).two hlt
      obtain ⟨q1, q2⟩ := Hs.out x (List.mem_of_getElem? hx)
      have Hx := Lib.hid hx
      have Hp := Lib.hid (spec_pre x.1 wr q1)
      have Hn := Lib.hid (spec_name x.2 wr q2)
      simp only [rtf] at hcA hcB
      clear hx q1 q2
      go_wp2_with fail
      refine Hp.out.mono ?_
      rintro e w' ⟨rfl, rfl⟩
      cases hpr : preB x.1 with
      | false =>
        have Hno := Lib.hid (rv_pre Hx.out hpr)
        clear hpr
        go_wp2_with fail
        go_ret
        exact ⟨ret_bool Hno.out.symm, Hb.out⟩
      | true =>
        have Hpr := Lib.hid hpr
        clear hpr Hp
        go_wp2_with fail
        refine Hn.out.mono ?_
        rintro e w' ⟨rfl, rfl⟩
        cases hnm : nameB x.2 with
        | false =>
          have Hno := Lib.hid (rv_name Hx.out hnm)
          clear hnm
          go_wp2_with fail
          go_ret
          exact ⟨ret_bool Hno.out.symm, Hb.out⟩
        | true =>
          have Hnm := Lib.hid hnm
          clear hnm Hn
          go_wp2_with fail
          refine (spec_idx _ xs x.1 _ (Hv.out.below Hb.out)).mono ?_
          rintro e w2 ⟨rfl, hb2⟩
          replace Hb := Lib.hid (below_trans' Hb.out hb2)
          clear hb2 hcA hcB
          rcases idx_first Hx.out with ⟨he, hne⟩ | ⟨he, j, y, hj, hy, hye⟩
          · have e1 : (idxI xs x.1 != (k : Int)) = false := by simp [he]
            have Hto := Lib.hid (rvTo_step hto.out Hx.out Hpr.out Hnm.out hne)
            clear he hne
            go_wp2_with fail
            go_roundw
            case rel => exact ⟨k + 1, by omega, by go_num, Hb, Hto⟩
            case measure => simp [intOf]; omega
          · have e1 : (idxI xs x.1 != (k : Int)) = true := by simp [he]
            have Hno := Lib.hid (rv_dup hj hy Hx.out hye)
            clear he hj hy hye
            go_wp2_with fail
            go_ret
            exact ⟨ret_bool Hno.out.symm, Hb.out⟩
    · have hk' : k = xs.length := by omega
      subst hk'
      have Hend := Lib.hid (rvTo_end hto.out)
      clear hto
      go_wp2_with fail
      go_ret
      exact ⟨ret_bool (by rw [Hend.out]; first | (congr 1; rw [eq_iff_iff]; omega) | (simp; omega)), Hb.out⟩

set_option maxRecDepth 100000 in
set_option maxHeartbeats 1000000 in
theorem impl_rv (v : Value) (xs : List Rul) (w : World) (h : Rt w v xs) (hs : Szr xs) :
    Calls Try.prog 30 #[v] w fun e w' => e = .returned (.bool (rv xs)) ∧ Below w.heap.size w w' := by
  have Hs := Lib.hid hs
  obtain ⟨A, c, rfl, hA, hc1, hc2⟩ := h
  have Hc2 := Lib.hid hc2
  unfold maxLen at hc2
  have HA := Lib.hid hA
  clear hs hA
  by_cases hbig : 20 < (xs.length : Int)
  · have Hno := Lib.hid (rv_long (b := xs) (by omega))
    go_enter Try.func30, Try.ntmps30
    go_wp2_with fail
    go_ret
    exact ⟨ret_bool Hno.out.symm, Below.refl _ _⟩
  go_enter Try.func30, Try.ntmps30
  go_wp2_with fail
  go_loopw [10] (fun i wr => ∃ k : Nat, k ≤ xs.length ∧ i = .int .i64 k ∧ Hid (Below w.heap.size w wr) ∧ Hid (RvTo xs k)) (fun i _ => xs.length - (intOf i).toNat)
  case atStart => exact ⟨0, Nat.zero_le _, rfl, Lib.hid (Below.refl _ _), Lib.hid (rvTo_zero _)⟩
  case round =>
    obtain ⟨k, hk, rfl, Hb, hto⟩ := hrel
    by_cases hlt : k < xs.length
    · obtain ⟨ad, x, rfl, hx, hcA, hcB⟩ := (HA.out.below Hb.out).two hlt
      obtain ⟨q1, q2⟩ := Hs.out x (List.mem_of_getElem? hx)
      have Hx := Lib.hid hx
      have Hp := Lib.hid (fun w => impl_pre x.1 w q1)
      have Hn := Lib.hid (fun w => impl_name x.2 w q2)
      simp only [rtf] at hcA hcB
      clear hx q1 q2
      cases hpr : preB x.1 with
      | false =>
        rw [hpr] at Hp
        have Hno := Lib.hid (rv_pre Hx.out hpr)
        clear hpr
        go_wp2_with fail
        go_quiet ((go_at_call 45; exact Calls.quiet_of_same ((Hp.out _).mono fun e w' h => ⟨h.1, h.2.symm⟩)))
        go_wp2_with fail
        go_ret
        exact ⟨ret_bool Hno.out.symm, below_drewN (Hb.out.alloc Hb.out.size _) _⟩
      | true =>
        rw [hpr] at Hp
        have Hpr := Lib.hid hpr
        clear hpr
        cases hnm : nameB x.2 with
        | false =>
          rw [hnm] at Hn
          have Hno := Lib.hid (rv_name Hx.out hnm)
          clear hnm
          go_wp2_with fail
          go_quiet (first | (go_at_call 45; exact Calls.quiet_of_same ((Hp.out _).mono fun e w' h => ⟨h.1, h.2.symm⟩)) | (go_at_call 28; exact Calls.quiet_of_same ((Hn.out _).mono fun e w' h => ⟨h.1, h.2.symm⟩)))
          go_wp2_with fail
          go_ret
          exact ⟨ret_bool Hno.out.symm, below_drewN (Hb.out.alloc Hb.out.size _) _⟩
        | true =>
          rw [hnm] at Hn
          have Hnm := Lib.hid hnm
          clear hnm
          have HA2 := Lib.hid (fun o => Rt.take (HA.out.below (Hb.out.alloc Hb.out.size o)) hk hc1 Hc2.out)
          go_wp2_with fail
          go_region_with (first | (go_at_call 45; refine (Hp.out _).mono ?_; rintro e w' ⟨rfl, rfl⟩) | (go_at_call 28; refine (Hn.out _).mono ?_; rintro e w' ⟨rfl, rfl⟩) | (go_at_call 46; refine (impl_idx _ (xs.take k) x.1 _ (Sl.below (HA2.out _) (by first | exact (Below.refl _ _).drew | exact Below.refl _ _))).mono ?_; rintro e w2 ⟨rfl, hb2⟩))
          all_goals
            replace Hb := Lib.hid (below_trans' (Hb.out.alloc Hb.out.size _).drew hb2)
            clear hb2 hcA hcB HA2
            rcases idx_take hk x.1 with ⟨he, hne⟩ | ⟨he, j, y, hj, hy, hye⟩
            · have he' : ¬ 0 ≤ idxI (xs.take k) x.1 := by omega
              have Hto := Lib.hid (rvTo_step hto.out Hx.out Hpr.out Hnm.out hne)
              clear he hne
              go_wp2_with fail
              go_roundw
              case rel => exact ⟨k + 1, by omega, by go_num, Hb, Hto⟩
              case measure => simp [intOf]; omega
            · have Hno := Lib.hid (rv_dup hj hy Hx.out hye)
              clear hj hy hye
              go_wp2_with fail
              go_ret
              exact ⟨ret_bool Hno.out.symm, Hb.out⟩
    · have hk' : k = xs.length := by omega
      subst hk'
      have Hend : Hid (rv xs = true) := Lib.hid (by rw [rvTo_end hto.out]; exact decide_eq_true (by omega))
      clear hto
      go_wp2_with fail
      go_ret
      exact ⟨ret_bool Hend.out.symm, Hb.out⟩

end Go.Proofs.Ythmngaioimohaaa
