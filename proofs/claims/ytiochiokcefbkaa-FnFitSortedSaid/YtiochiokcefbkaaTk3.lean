/- The walks of the functions that mark results and look at the marks. -/
import Derived.Test.YtiochiokcefbkaaTk1
namespace Go.Proofs.Ytiochiokcefbkaa
open Go.RowKit
set_option linter.unusedVariables false

/-- The numbers from k on. -/
def mks (k : Int) (n : Nat) : List Int := (List.range n).map fun (i : Nat) => k + (i : Int)
theorem mks_length (k : Int) (n : Nat) : (mks k n).length = n := by simp [mks]
theorem mks_get (k : Int) (n i : Nat) (h : i < n) : (mks k n)[i]? = some (k + (i : Int)) := by simp [mks, h]

set_option maxHeartbeats 400000 in
theorem markInts (v : Value) (B : Nat) (xs : List Int) (k0 : Int) (w : World) (h : OwnI w B v xs) (hn : xs.length ≤ 1099511627776) (h0 : 0 ≤ k0) (h1 : k0 ≤ 1099511627776) :
    Calls Try.prog 25 #[v, .int .i64 k0] w fun e w' => e = .returned (.int .i64 (k0 + (xs.length : Int))) ∧ OwnI w' B v (mks k0 xs.length) ∧ w.grownBy w' v.ownBlock := by
  obtain ⟨A, c, rfl, ho⟩ := h
  have H0 : Hid (∃ ys, Filled ys (mks k0 xs.length) 0 ∧ w.ownsRow B 3 1 (.slice A xs.length c) xs.length (ints ys)) := ⟨xs, ⟨by simp [mks], rfl⟩, ho⟩
  clear ho
  go_enter Try.func25, Try.ntmps25
  go_wp2_with fail
  go_loopw [1, 5] (fun kk i wr => ∃ k : Nat, k ≤ xs.length ∧ i = .int .i64 k ∧ kk = .int .i64 (k0 + (k : Int)) ∧ w.grownBy wr (Value.slice A xs.length c).ownBlock ∧
      Hid (∃ ys, Filled ys (mks k0 xs.length) k ∧ wr.ownsRow B 3 1 (.slice A xs.length c) xs.length (ints ys))) (fun _ i _ => xs.length - (intOf i).toNat)
  case atStart => exact ⟨0, Nat.zero_le _, rfl, by simp, World.grownBy.refl _ _, H0⟩
  case round =>
    obtain ⟨k, hk, rfl, rfl, hgr, hys⟩ := hrel
    obtain ⟨ys, hf, hown⟩ := hys.out
    clear hys H0
    by_cases hlt : k < xs.length
    · obtain ⟨g, rfl⟩ : ∃ g, A = some ⟨g, 0, none⟩ := by
        rcases hown.2 with ⟨hv, hz⟩ | ⟨g, cap, cur, hv, _⟩
        · omega
        · injection hv with hv; exact ⟨g, hv⟩
      have hyk : k < ys.length := by rw [hf.len, mks_length]; exact hlt
      have hc2 : wr.cell? ⟨g, k, none⟩ = some (.int .i64 ys[k]) := (hown.cellAt k (by omega)).trans (ints_get (List.getElem?_eq_getElem hyk))
      have hfz : wr.frozen? ⟨g, k, none⟩ = false := hown.frozenAt k
      have hst := hown.stored k (.int .i64 (k0 + (k : Int)))
      rw [ints_set] at hst
      have Hst := Lib.hid hst
      have Hf := Lib.hid (hf.step (mks_get k0 _ _ hlt))
      have Hgr := Lib.hid hgr
      clear hst hown hf hgr
      go_wp2_with fail
      go_roundw
      case rel => exact ⟨k + 1, by omega, by go_num, by go_num, Hgr.out.trans (by simpa [Value.ownBlock] using Hst.out.2), ⟨_, Hf.out, Hst.out.1⟩⟩
      case measure => simp [intOf]; omega
    · have hk' : k = xs.length := by omega
      subst hk'
      have hd : ys = mks k0 xs.length := by
        have h2 := hf.head
        have h3 := hf.len
        rw [mks_length] at h3
        rwa [List.take_of_length_le (by omega), List.take_of_length_le (by rw [mks_length]; exact Nat.le_refl _)] at h2
      subst hd
      go_wp2_with fail
      go_ret
      exact ⟨rfl, ownI_of hown, hgr⟩

set_option maxHeartbeats 400000 in
theorem heldInts (A : Option Addr) (c : Nat) (k0 : Int) (n : Nat) (w : World) (h : Rd w A (ints (mks k0 n))) (hn : n ≤ 1099511627776) (h0 : 0 ≤ k0) (h1 : k0 ≤ 1099511627776) :
    Calls Try.prog 26 #[.slice A n c, .int .i64 k0] w fun e w' => e = .returned (.int .i64 (k0 + (n : Int))) ∧ w = w' := by
  go_enter Try.func26, Try.ntmps26
  go_wp2_with fail
  go_loop [1, 5] (fun kk i => ∃ k : Nat, k ≤ n ∧ i = .int .i64 k ∧ kk = .int .i64 (k0 + (k : Int))) (fun _ i => n - (intOf i).toNat)
  case atStart => exact ⟨0, Nat.zero_le _, rfl, by simp⟩
  case round =>
    obtain ⟨k, hk, rfl, rfl⟩ := hrel
    by_cases hlt : k < n
    · obtain ⟨ad, x, rfl, hx, hc⟩ := h.int (k := k) (by rw [mks_length]; exact hlt)
      rw [mks_get k0 n k hlt] at hx
      injection hx with hx
      subst hx
      go_wp2_with fail
      go_round
      case rel => exact ⟨k + 1, by omega, by go_num, by go_num⟩
      case measure => simp [intOf]; omega
    · have hk' : k = n := by omega
      subst hk'
      go_wp2_with fail
      go_ret
      exact ⟨rfl, rfl⟩

/-- .. of a slice of the call's own. -/
theorem heldOwn (v : Value) (B : Nat) (k0 : Int) (n : Nat) (w : World) (h : OwnI w B v (mks k0 n)) (hn : n ≤ 1099511627776) (h0 : 0 ≤ k0) (h1 : k0 ≤ 1099511627776) :
    Calls Try.prog 26 #[v, .int .i64 k0] w fun e w' => e = .returned (.int .i64 (k0 + (n : Int))) ∧ w = w' := by
  obtain ⟨A, c, rfl, hr, _⟩ := h.rd
  rw [mks_length]
  exact heldInts A c k0 n w hr hn h0 h1

theorem eqOwn (v u : Value) (B D : Nat) (xs : List Int) (w : World) (h : OwnI w B v xs) (hu : OwnI w D u xs) :
    Calls Try.prog 18 #[v, u] w fun e w' => e = .returned (.bool true) ∧ ∃ n, w' = w.drewN n := by
  obtain ⟨A, c, rfl, hr, hl⟩ := h.rd
  obtain ⟨A', c', rfl, hr', hl'⟩ := hu.rd
  exact (eqInts A A' c c' xs xs w hr hr' hl hl').mono fun e w' ⟨he, hw⟩ => ⟨he.trans (ret_bool (decide_eq_true rfl)), hw⟩

/-- toIntS: a new slice with the same numbers. -/
theorem toOwn (A : Option Addr) (c : Nat) (xs : List Int) (w : World) (h : Rd w A (ints xs)) (hn : xs.length ≤ 1048576) :
    Calls Try.prog 16 #[.slice A xs.length c] w fun e w' => ∃ v, e = .returned v ∧ OwnI w' w.heap.size v xs ∧ Below w.heap.size w w' :=
  (toInts A c xs w h hn).mono fun e w' ⟨g, he, hown, hb⟩ => ⟨_, he, ownI_of hown, hb⟩

end Go.Proofs.Ytiochiokcefbkaa
