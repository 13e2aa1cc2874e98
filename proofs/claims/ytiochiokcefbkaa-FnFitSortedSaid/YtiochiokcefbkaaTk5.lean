/- The walks of FirstFit. -/
import Derived.Test.YtiochiokcefbkaaTk4
namespace Go.Proofs.Ytiochiokcefbkaa
open Go.RowKit
set_option linter.unusedVariables false

theorem nats_range_succ (k : Nat) : nats (List.range (k + 1)) = nats (List.range k) ++ [(k : Int)] := by simp [nats, List.range_succ]

set_option maxHeartbeats 400000 in
theorem indices_any (n : Nat) (w : World) (hn : n ≤ 1000) :
    Calls Try.prog 45 #[.int .i64 n] w fun e w' => ∃ v, e = .returned v ∧ OwnI w' w.heap.size v (nats (List.range n)) ∧ Below w.heap.size w w' := by
  obtain ⟨i0, hi, hz0, hz1, hz2⟩ := info_parts int_info
  go_enter Try.func45, Try.ntmps45
  go_wp2_with (at_make; refine wpList_make_full _ rfl _ _ _ rfl w.heap.size 3 i0 _ 1 Try.underlying22 hi hz0 hz1 _ _ _ _ n rfl rfl rfl rfl (by rw [hz2]; omega) (by unfold maxLen; omega) (Nat.le_refl _) ?_; intro w1 hown1 hg1)
  rw [made_ints] at hown1
  have hb1 : Below w.heap.size w w1 := (Below.refl _ _).grown hg1 (Nat.le_refl _) (by simp)
  have hln : (nats (List.range n)).length = n := by simp [nats]
  have H0 : Hid (∃ ys, Filled ys (nats (List.range n)) 0 ∧ w1.ownsRow w.heap.size 3 1 (.slice (some ⟨w.heap.size, 0, none⟩) n n) n (ints ys)) := ⟨List.replicate n 0, ⟨by simp [nats], rfl⟩, hown1⟩
  have Hln := Lib.hid hln
  clear hown1 hg1 hln
  go_loopw [9] (fun i wr => ∃ k : Nat, k ≤ n ∧ i = .int .i64 k ∧ Below w.heap.size w wr ∧ Hid (∃ ys, Filled ys (nats (List.range n)) k ∧ wr.ownsRow w.heap.size 3 1 (.slice (some ⟨w.heap.size, 0, none⟩) n n) n (ints ys))) (fun i _ => n - (intOf i).toNat)
  case atStart => exact ⟨0, Nat.zero_le _, rfl, hb1, H0⟩
  case round =>
    obtain ⟨k, hk, rfl, hb, hys⟩ := hrel
    obtain ⟨ys, hf, hown⟩ := hys.out
    clear hys H0 hb1
    by_cases hlt : k < n
    · have hyk : k < ys.length := by rw [hf.len, Hln.out]; exact hlt
      have hc2 : wr.cell? ⟨w.heap.size, k, none⟩ = some (.int .i64 ys[k]) := (hown.cellAt k (by omega)).trans (ints_get (List.getElem?_eq_getElem hyk))
      have hfz : wr.frozen? ⟨w.heap.size, k, none⟩ = false := hown.frozenAt k
      have hst := hown.stored k (.int .i64 (k : Int))
      rw [ints_set] at hst
      have Hst := Lib.hid hst
      have Hf := Lib.hid (hf.step (x := (k : Int)) (nats_get (by simp [hlt])))
      clear hst hown hf
      go_wp2_with fail
      go_roundw
      case rel => exact ⟨k + 1, by omega, by go_num, hb.setCell (Nat.le_refl _) _, ⟨_, Hf.out, Hst.out.1⟩⟩
      case measure => simp [intOf]; omega
    · have hk' : k = n := by omega
      subst hk'
      have hd : ys = nats (List.range k) := by
        have h2 := hf.head
        have h3 := hf.len
        have h4 := Hln.out
        rwa [List.take_of_length_le (by omega), List.take_of_length_le (by omega)] at h2
      subst hd
      go_wp2_with fail
      go_ret
      exact ⟨_, rfl, ownI_of hown, hb⟩

/-- The loading by first fit. -/
def ff (ws : List Int) (cap : Int) : List Int := if wv ws cap then (fitAll ws cap (List.range ws.length)).2 else []
theorem ff_no {ws : List Int} {cap : Int} (h : wv ws cap = false) : ff ws cap = [] := by simp [ff, h]
theorem ff_yes {ws : List Int} {cap : Int} (h : wv ws cap = true) : ff ws cap = (fitAll ws cap (List.range ws.length)).2 := by simp [ff, h]

set_option maxHeartbeats 400000 in
theorem impl_ff (A : Option Addr) (c : Nat) (ws : List Int) (cap : Int) (w : World) (hA : Rd w A (ints ws)) (hn : ws.length ≤ maxLen) :
    Calls Try.prog 24 #[.slice A ws.length c, .int .i64 cap] w fun e w' => ∃ v, e = .returned v ∧ OwnI w' w.heap.size v (ff ws cap) ∧ Below w.heap.size w w' := by
  cases hw : wv ws cap
  · have Hf := Lib.hid (ff_no hw)
    go_enter Try.func24, Try.ntmps24
    go_wp2_with (go_at_call 17; refine (impl_wv _ _ _ _ _ hA hn).mono ?_; rintro e w' ⟨rfl, rfl⟩)
    go_ret
    exact ⟨_, rfl, by rw [Hf.out]; exact ownI_nil _ _, Below.refl _ _⟩
  · have Hf := Lib.hid (ff_yes hw)
    have hl8 := (wv_parts hw).2.1
    have Hw := Lib.hid hw
    go_enter Try.func24, Try.ntmps24
    go_wp2_with (go_at_call 17; refine (impl_wv _ _ _ _ _ hA hn).mono ?_; rintro e w' ⟨rfl, rfl⟩)
    refine (indices_any ws.length _ (by omega)).mono ?_
    rintro e w1 ⟨v, rfl, ho, hb⟩
    obtain ⟨C, d, rfl, hC, _⟩ := ho.rdn (n := ws.length) (by simp [nats])
    have hc := impl_fit A C c d ws (List.range ws.length) cap _ (hA.below hb) hC Hw.out (by simp) (by simp)
    rw [List.length_range] at hc
    have Hc := Lib.hid hc
    clear hc ho
    go_wp2_with fail
    refine (Hc.out).mono ?_
    rintro e w2 ⟨v2, rfl, ho2, hb2⟩
    go_wp2_with fail
    go_ret
    exact ⟨_, rfl, by rw [Hf.out]; exact ho2.base hb.size, below_trans' hb hb2⟩

set_option maxHeartbeats 400000 in
theorem spec_ff (A : Option Addr) (c : Nat) (ws : List Int) (cap : Int) (w : World) (hA : Rd w A (ints ws)) (hn : ws.length ≤ maxLen) :
    Calls Try.prog 23 #[.slice A ws.length c, .int .i64 cap] w fun e w' => ∃ v, e = .returned v ∧ OwnI w' w.heap.size v (ff ws cap) ∧ Below w.heap.size w w' := by
  obtain ⟨i0, hi, hz0, hz1, hz2⟩ := info_parts int_info
  have hb0 : Below w.heap.size w (w.alloc (.cells #[] 3)) := (Below.refl _ _).alloc (Nat.le_refl _) _
  have hA0 := hA.below hb0
  cases hw : wv ws cap
  · have Hf := Lib.hid (ff_no hw)
    go_enter Try.func23, Try.ntmps23
    go_wp2_with (go_at_call 15; refine (spec_wv _ _ _ _ _ hA0 hn).mono ?_; rintro e w' ⟨rfl, rfl⟩)
    go_ret
    exact ⟨_, rfl, by rw [Hf.out]; exact ownI_lit0 w, hb0⟩
  · have Hf := Lib.hid (ff_yes hw)
    have hl8 := (wv_parts hw).2.1
    have Hw := Lib.hid hw
    have Ho0 : Hid ((w.alloc (.cells #[] 3)).ownsRow w.heap.size 3 1 (.slice (some ⟨w.heap.size, 0, none⟩) 0 0) 0 (ints (nats (List.range 0)))) := Lib.hid (World.ownsRow_lit w #[] 0 (Nat.le_refl _) (Nat.zero_le _) rfl)
    have Hb0 := Lib.hid hb0
    clear hb0
    go_enter Try.func23, Try.ntmps23
    go_wp2_with (go_at_call 15; refine (spec_wv _ _ _ _ _ hA0 hn).mono ?_; rintro e w' ⟨rfl, rfl⟩)
    go_loopw [5, 6] (fun v i wr => ∃ k : Nat, k ≤ ws.length ∧ i = .int .i64 k ∧ Below w.heap.size w wr ∧ Hid (wr.ownsRow w.heap.size 3 1 v k (ints (nats (List.range k))))) (fun _ i _ => ws.length - (intOf i).toNat)
    case atStart => exact ⟨0, Nat.zero_le _, rfl, Hb0.out, Ho0⟩
    case round =>
      obtain ⟨k, hk, rfl, hb, hown⟩ := hrel
      clear hw hA0 Hb0 Ho0
      by_cases hlt : k < ws.length
      · have hown' := hown.out
        have hz := hb.size
        go_wp2_with (at_builtin; refine wpList_append_own _ rfl (.tmp 19) (.tmp 21) 22 rfl w.heap.size 3 i0 _ 1 8 Try.underlying22 hi hz0 hz1 hz2 rfl (by decide) _ _ _ rfl (hown'.alloc _) ⟨wr.heap.size, 0, none⟩ 1 1 [.int .i64 (k : Int)] rfl rfl (cell_new1 _ _ _) (oneCell1 _) (by unfold maxLen; omega) (by omega) (by simp; omega) ?_; intro v' w1 hown1 hg1 _)
        have hb1 : Below w.heap.size w w1 := (hb.alloc hz _).grown hg1 (by simp; omega) (fun g e => (hown'.lt g e).1)
        have e1 : ints (nats (List.range k)) ++ [Value.int .i64 (k : Int)] = ints (nats (List.range (k + 1))) := by rw [nats_range_succ, ints_append]; rfl
        rw [e1] at hown1
        have Hown1 := Lib.hid hown1
        clear hown1 hown hown' hg1 e1
        go_wp2_with fail
        go_roundw
        case rel => exact ⟨k + 1, by omega, by go_num, hb1, Hown1⟩
        case measure => simp [intOf]; omega
      · have hk' : k = ws.length := by omega
        subst hk'
        obtain ⟨C, d, rfl, _, _, hC, _⟩ := own_form hown.out
        have hc := spec_fit A C c d ws (List.range ws.length) cap _ (hA.below hb) hC Hw.out (by simp) (by simp)
        rw [List.length_range] at hc
        have Hc := Lib.hid hc
        clear hc hown
        go_wp2_with fail
        refine (Hc.out).mono ?_
        rintro e w2 ⟨v2, rfl, ho2, hb2⟩
        go_wp2_with fail
        go_ret
        exact ⟨_, rfl, by rw [Hf.out]; exact ho2.base hb.size, below_trans' hb hb2⟩

end Go.Proofs.Ytiochiokcefbkaa
