
/- Strings in memory; the walk of spec.l6Path. -/
import Derived.Test.YthmngaioimohaaaNtW
import Derived.Test.YthmngaioimohaaaNtStrs
namespace Go.Proofs.Ythmngaioimohaaa
open Go.RowKit
set_option linter.unusedVariables false

theorem str_elem : ElemInfo Try.prog 33 9 1 16 := elemInfo_of Try.underlying33 str_info rfl (by decide)
theorem strs_oneCell (xs : List ByteArray) : ∀ u ∈ strs xs, u.oneCell' = true := by
  intro u hu
  obtain ⟨x, _, rfl⟩ := List.mem_map.1 hu
  rfl
theorem strs_length (xs : List ByteArray) : (strs xs).length = xs.length := by simp [strs]
theorem strs_append (xs ys : List ByteArray) : strs (xs ++ ys) = strs xs ++ strs ys := by simp [strs]
def IS (w : World) (v : Value) (xs : List ByteArray) : Prop := Sl w v xs.length (strs xs)
def OS (w : World) (lo hi : Nat) (v : Value) (xs : List ByteArray) : Prop := Own w lo hi 9 1 v xs.length (strs xs)
theorem OS.in_ {w : World} {lo hi : Nat} {v : Value} {xs : List ByteArray} (h : OS w lo hi v xs) : IS w v xs := Own.sl h
theorem OS.below {w w' : World} {lo hi : Nat} {v : Value} {xs : List ByteArray} (h : OS w lo hi v xs) (hb : Below w.heap.size w w') : OS w' lo hi v xs := Own.below h hb
theorem IS.below {w w' : World} {v : Value} {xs : List ByteArray} (h : IS w v xs) (hb : Below w.heap.size w w') : IS w' v xs := Sl.below h hb

theorem not_upto {xs : List ByteArray} {k : Nat} {x p : ByteArray} (h : ∀ m, m < k → ∀ y, xs[m]? = some y → y ≠ p) (hx : xs[k]? = some x) (hn : x ≠ p) : ∀ m, m < k + 1 → ∀ y, xs[m]? = some y → y ≠ p := by
  intro j hj y hy
  rcases Nat.lt_or_ge j k with hl | hl
  · exact h j hl y hy
  · have : j = k := by omega
    subst this
    rw [hx] at hy
    injection hy with hy
    subst hy; exact hn
set_option maxRecDepth 100000 in
set_option maxHeartbeats 800000 in
theorem spec_rank (v : Value) (xs : List ByteArray) (p : ByteArray) (w : World) (h : IS w v xs) :
    Calls Try.prog 53 #[v, .string p] w fun e w' => (∃ z : Int, e = .returned (.int .i64 z) ∧ ((p ∈ xs ∧ 0 ≤ z) ∨ (p ∉ xs ∧ z = -1))) ∧ Below w.heap.size w w' := by
  have H := Lib.hid h
  obtain ⟨A, c, rfl, hA, hc1, hc2⟩ := h
  unfold maxLen at hc2
  have HA := Lib.hid hA
  clear hA
  go_enter Try.func53, Try.ntmps53
  go_wp2_with fail
  go_loopw [5] (fun i wr => ∃ k : Nat, k ≤ xs.length ∧ i = .int .i64 k ∧ Hid (Below w.heap.size w wr) ∧ Hid (∀ m, m < k → ∀ y, xs[m]? = some y → y ≠ p)) (fun i _ => xs.length - (intOf i).toNat)
  case atStart => exact ⟨0, Nat.zero_le _, rfl, Lib.hid (Below.refl _ _), Lib.hid (by intro m hm; omega)⟩
  case round =>
    obtain ⟨k, hk, rfl, Hb, hne⟩ := hrel
    by_cases hlt : k < xs.length
    · have hx := List.getElem?_eq_getElem hlt
      generalize xs[k] = x at hx
      obtain ⟨ad, rfl, hcA⟩ := (HA.out.below Hb.out) k _ (strs_get hx)
      have Hx := Lib.hid hx
      clear hx
      by_cases he : x = p
      · have e1 := str_same he
        have Hin : Hid (p ∈ xs) := Lib.hid (he ▸ List.mem_of_getElem? Hx.out)
        clear he hne
        go_wp2_with fail
        go_ret
        exact ⟨⟨_, rfl, .inl ⟨Hin.out, by omega⟩⟩, Hb.out⟩
      · have e1 := str_diff he
        have Hne := Lib.hid (not_upto hne.out Hx.out he)
        clear he hne
        go_wp2_with fail
        go_roundw
        case rel => exact ⟨k + 1, by omega, by go_num, Hb, Hne⟩
        case measure => simp [intOf]; omega
    · have hk' : k = xs.length := by omega
      subst hk'
      have Hno : Hid (p ∉ xs) := Lib.hid fun hp => by
        obtain ⟨j, hj⟩ := List.getElem?_of_mem hp
        exact hne.out j (List.getElem?_eq_some_iff.1 hj).1 p hj rfl
      clear hne
      go_wp2_with fail
      go_ret
      exact ⟨⟨_, rfl, .inr ⟨Hno.out, rfl⟩⟩, Hb.out⟩

/-- Where the walk of a path stands. -/
structure Pt (net : List Off) (c : ByteArray) (i : Nat) (done : List Nat) (cur : Nat) : Prop where
  nd : done.Nodup
  lt : ∀ a ∈ done, a < net.length
  old : cur ∈ done → pathN net c i = (done ++ [cur], 2)
  new : cur ∉ done → pathN net c i = routeI (nxtN net c) (net.length - done.length) done cur
theorem pt_zero (net : List Off) (c : ByteArray) (i : Nat) : Pt net c i [] i := ⟨by simp, by simp, fun h => by simp at h, fun _ => rfl⟩
theorem pt_len {net : List Off} {c : ByteArray} {i cur : Nat} {done : List Nat} (h : Pt net c i done cur) : done.length ≤ net.length := by
  have := h.nd.length_le_of_subset (l₂ := List.range net.length) fun a ha => List.mem_range.2 (h.lt a ha)
  simpa using this
theorem pt_more {net : List Off} {c : ByteArray} {i cur : Nat} {done : List Nat} (h : Pt net c i done cur) (hc : cur < net.length) (hn : cur ∉ done) : done.length + 1 ≤ net.length ∧ (done ++ [cur]).Nodup ∧ ∀ a ∈ done ++ [cur], a < net.length := by
  have h1 : (done ++ [cur]).Nodup := by
    rw [List.nodup_append]
    exact ⟨h.nd, by simp, fun a ha b hb => by simp at hb; subst hb; exact fun e => hn (e ▸ ha)⟩
  have h2 : ∀ a ∈ done ++ [cur], a < net.length := fun a ha => by
    rcases List.mem_append.1 ha with ha | ha
    · exact h.lt a ha
    · simp at ha; subst ha; exact hc
  have := h1.length_le_of_subset (l₂ := List.range net.length) fun a ha => List.mem_range.2 (h2 a ha)
  simp at this
  exact ⟨this, h1, h2⟩
theorem pt_fuel {net : List Off} {c : ByteArray} {i cur : Nat} {done : List Nat} (h : Pt net c i done cur) (hc : cur < net.length) (hn : cur ∉ done) : pathN net c i = routeI (nxtN net c) (net.length - (done.length + 1) + 1) done cur := by
  have h1 := (pt_more h hc hn).1
  rw [h.new hn]
  congr 1; omega
theorem pt_lost {net : List Off} {c : ByteArray} {i cur : Nat} {done : List Nat} {o : Off} (h : Pt net c i done cur) (hc : net[cur]? = some o) (hn : cur ∉ done) (hx : nextR o.2 c = none) : pathN net c i = (done ++ [cur], 1) := by
  rw [pt_fuel h (List.getElem?_eq_some_iff.1 hc).1 hn, route_lost (nxt_lost hc hx)]
theorem pt_home {net : List Off} {c : ByteArray} {i cur : Nat} {done : List Nat} {o : Off} (h : Pt net c i done cur) (hc : net[cur]? = some o) (hn : cur ∉ done) (hx : nextR o.2 c = some here) : pathN net c i = (done ++ [cur], 0) := by
  rw [pt_fuel h (List.getElem?_eq_some_iff.1 hc).1 hn, route_home (nxt_home hc hx)]
theorem pt_to {net : List Off} {c m : ByteArray} {i cur j : Nat} {done : List Nat} {o : Off} (h : Pt net c i done cur) (hc : net[cur]? = some o) (hn : cur ∉ done) (hx : nextR o.2 c = some m) (hm : m ≠ here) (hj : offI net m = some j) : Pt net c i (done ++ [cur]) j := by
  have hcl := (List.getElem?_eq_some_iff.1 hc).1
  obtain ⟨h1, h2, h3⟩ := pt_more h hcl hn
  have h4 := pt_fuel h hcl hn
  have h5 := nxt_to hc hx hm hj
  refine ⟨h2, h3, fun hin => ?_, fun hni => ?_⟩
  · rw [h4, route_loop h5 hin]
  · rw [h4, route_go h5 hni]
    congr 1; simp
theorem names_mem {net : List Off} (hv : Nv net) {done : List Nat} {cur : Nat} {o : Off} (hc : net[cur]? = some o) (hl : ∀ a ∈ done, a < net.length) : o.1 ∈ done.map (nameAt net) ↔ cur ∈ done := by
  constructor
  · intro h
    obtain ⟨a, ha, hn⟩ := List.mem_map.1 h
    have h1 := List.getElem?_eq_getElem (hl a ha)
    rw [nameAt_eq h1] at hn
    have := hv.uniq h1 hc hn
    subst this; exact ha
  · intro h
    exact List.mem_map.2 ⟨cur, h, nameAt_eq hc⟩
theorem next_nm {net : List Off} (hv : Nv net) {o : Off} (ho : o ∈ net) {c m : ByteArray} (h : nextR o.2 c = some m) : nameB m = true := by
  cases hb : bestR o.2 c with
  | none => rw [nextR, hb] at h; cases h
  | some r =>
    rw [nextR, hb] at h
    injection h with h
    have h : r.2 = m := h
    subst h
    exact (rv_parts (hv.rules o ho)).name r (bestR_some hb).1
theorem name_ne {m : ByteArray} (h : nameB m = true) : m ≠ ⟨#[]⟩ := by
  intro e
  rw [e, nameB_low (by left; show (0 : Nat) < 1; omega)] at h
  cases h
def room (n : Nat) : Value → Nat
  | .slice _ k _ => n - k
  | _ => 0

end Go.Proofs.Ythmngaioimohaaa
