
/- The walk of spec.NetworkValid. -/
import Derived.Test.YthmngaioimohaaaNt11
namespace Go.Proofs.Ythmngaioimohaaa
open Go.RowKit
set_option linter.unusedVariables false

theorem here_yes {s : ByteArray} (h : s = here) : (s.toList == [104, 101, 114, 101]) = true := by subst h; kernel_rfl
theorem here_no {s : ByteArray} (h : s ≠ here) : (s.toList == [104, 101, 114, 101]) = false := by
  have := str_diff h
  rwa [show here.toList = [104, 101, 114, 101] by kernel_rfl] at this
theorem here_ne {s : ByteArray} (h : s ≠ here) : (s.toList != [104, 101, 114, 101]) = true := by simp [bne, here_no h]
theorem here_eq {s : ByteArray} (h : s = here) : (s.toList != [104, 101, 114, 101]) = false := by simp [bne, here_yes h]

set_option maxRecDepth 100000 in
set_option maxHeartbeats 2000000 in
theorem spec_nv (v : Value) (net : List Off) (w : World) (h : InO w v net) (hs : SzO net) :
    Calls Try.prog 8 #[v] w fun e w' => e = .returned (.bool (nv net)) ∧ Below w.heap.size w w' := by
  have H := Lib.hid h
  have Hs := Lib.hid hs
  obtain ⟨A, c, rfl, hc1, hc2⟩ := h.form
  unfold maxLen at hc2
  clear hs h
  go_enter Try.func8, Try.ntmps8
  go_wp2_with fail
  go_loopw [3] (fun i wr => ∃ k : Nat, k ≤ net.length ∧ i = .int .i64 k ∧ Hid (Below w.heap.size w wr) ∧ Hid (NvTo net k)) (fun i _ => net.length - (intOf i).toNat)
  case atStart => exact ⟨0, Nat.zero_le _, rfl, Lib.hid (Below.refl _ _), Lib.hid (nvTo_zero _)⟩
  case round =>
    obtain ⟨k, hk, rfl, Hb, hto⟩ := hrel
    by_cases hlt : k < net.length
    · obtain ⟨ad, o, u, rfl, ho, hcA, hcB, hru⟩ := (H.out.below Hb.out).at_ hlt
      have Hru := Lib.hid hru
      obtain ⟨UA, uc, rfl, hu1, hu2, hu3⟩ := hru
      obtain ⟨q1, q2⟩ := Hs.out o (List.mem_of_getElem? ho)
      have Ho := Lib.hid ho
      have Hn := Lib.hid (spec_name o.1 wr q1)
      have Q2 := Lib.hid q2
      clear ho q1 q2 hu1
      go_wp2_with fail
      refine Hn.out.mono ?_
      rintro e w' ⟨rfl, rfl⟩
      clear Hn
      cases hnm : nameB o.1 with
      | false =>
        have Hno := Lib.hid (nv_no Ho.out (okO_name hnm))
        clear hnm
        go_wp2_with fail
        go_ret
        exact ⟨ret_bool Hno.out.symm, Hb.out⟩
      | true =>
        have Hnm := Lib.hid hnm
        clear hnm
        by_cases he : o.1 = here
        · have Hno := Lib.hid (nv_no Ho.out (okO_here he))
          have e1 := here_yes he
          clear he
          go_wp2_with fail
          go_ret
          exact ⟨ret_bool Hno.out.symm, Hb.out⟩
        have He := Lib.hid he
        have e1 := here_no he
        clear he
        go_wp2_with fail
        refine (spec_off _ net o.1 _ (H.out.below Hb.out)).mono ?_
        rintro e w2 ⟨rfl, hb2⟩
        have Hb2 := Lib.hid hb2
        replace Hb := Lib.hid (below_trans' Hb.out hb2)
        clear hb2 hcA hcB
        obtain ⟨ad', o', u', ha, ho', hcA, hcB, hru'⟩ := (H.out.below Hb.out).at_ hlt
        injection ha with ha
        subst ha
        rw [Ho.out] at ho'
        injection ho' with ho'
        subst ho'
        replace Hru := Lib.hid hru'
        clear Hb2
        obtain ⟨UA', uc', rfl, hu1', hu2', hu3'⟩ := hru'
        clear hu1'
        rcases off_first Ho.out with ⟨hf, hne⟩ | ⟨hf, j, y, hj, hy, hye⟩
        · have e2 : (offZ net o.1 != (k : Int)) = false := by simp [hf]
          have Hne := Lib.hid hne
          clear hf hne
          go_wp2_with fail
          refine (spec_rv _ o.2 _ Hru.out Q2.out).mono ?_
          rintro e w3 ⟨rfl, hb3⟩
          replace Hb := Lib.hid (below_trans' Hb.out hb3)
          clear hb3 hcA hcB Hru
          cases hrv : rv o.2 with
          | false =>
            have Hno := Lib.hid (nv_no Ho.out (okO_rules hrv))
            clear hrv
            go_wp2_with fail
            go_ret
            exact ⟨ret_bool Hno.out.symm, Hb.out⟩
          | true =>
            have Hrv := Lib.hid hrv
            clear hrv
            go_wp2_with fail
            go_loopw [4] (fun i wr => ∃ m : Nat, m ≤ o.2.length ∧ i = .int .i64 m ∧ Hid (Below w.heap.size w wr) ∧ Hid (Nxts net o.2 m)) (fun i _ => o.2.length - (intOf i).toNat)
            case atStart => exact ⟨0, Nat.zero_le _, rfl, Hb, Lib.hid (nxts_zero _ _)⟩
            case round =>
              clear Hb
              obtain ⟨m, hm, rfl, Hb, hnx⟩ := hrel
              obtain ⟨ad', o', u', ha, ho', hcA, hcB, hru'⟩ := (H.out.below Hb.out).at_ hlt
              injection ha with ha
              subst ha
              rw [Ho.out] at ho'
              injection ho' with ho'
              subst ho'
              obtain ⟨UA', uc', rfl, hu1, hu2, hu3⟩ := hru'
              unfold maxLen at hu3
              by_cases hml : m < o.2.length
              · obtain ⟨bd, x, rfl, hx, hcC, hcD⟩ := hu1.two hml
                have Hx := Lib.hid hx
                simp only [rtf] at hcC hcD
                clear hx hu1
                by_cases hh : x.2 = here
                · have e3 := here_yes hh
                  have Hnx := Lib.hid (nxts_step hnx.out Hx.out (.inl hh))
                  clear hh hnx
                  go_wp2_with fail
                  go_roundw
                  case rel => exact ⟨m + 1, by omega, by go_num, Hb, Hnx⟩
                  case measure => simp [intOf]; omega
                · have e3 := here_no hh
                  have Hh := Lib.hid hh
                  clear hh
                  go_wp2_with fail
                  refine (spec_off _ net x.2 _ (H.out.below Hb.out)).mono ?_
                  rintro e w4 ⟨rfl, hb4⟩
                  replace Hb := Lib.hid (below_trans' Hb.out hb4)
                  clear hb4 hcA hcB hcC hcD
                  rcases offZ_cases net x.2 with ⟨e4, e5⟩ | ⟨i, r, e4, e5, _⟩
                  · have Hno := Lib.hid (nv_no Ho.out (okO_next Hx.out Hh.out e5))
                    rw [e4]
                    clear e4 e5
                    go_wp2_with fail
                    go_ret
                    exact ⟨ret_bool Hno.out.symm, Hb.out⟩
                  · have Hnx := Lib.hid (nxts_step hnx.out Hx.out (.inr ⟨i, e5⟩))
                    have hn0 : ¬ ((i : Int) < 0) := by omega
                    rw [e4]
                    clear e4 e5 hnx
                    go_wp2_with fail
                    go_roundw
                    case rel => exact ⟨m + 1, by omega, by go_num, Hb, Hnx⟩
                    case measure => simp [intOf]; omega
              · have hm' : m = o.2.length := by omega
                subst hm'
                have Hto := Lib.hid (nvTo_step hto.out Ho.out (okO_yes Hnm.out He.out Hrv.out hnx.out) Hne.out)
                clear hto hnx hu1
                go_wp2_with fail
                go_roundw
                case rel => exact ⟨k + 1, by omega, by go_num, Hb, Hto⟩
                case measure => simp [intOf]; omega
        · have e2 : (offZ net o.1 != (k : Int)) = true := by simp [hf]
          have Hno := Lib.hid (nv_dup hj hy Ho.out hye)
          clear hf hj hy hye
          go_wp2_with fail
          go_ret
          exact ⟨ret_bool Hno.out.symm, Hb.out⟩
    · have hk' : k = net.length := by omega
      subst hk'
      have Hend := Lib.hid (nvTo_end hto.out)
      clear hto
      go_wp2_with (go_at_call 26; refine (in_any _ _ _ _).mono ?_; rintro e w' ⟨rfl, rfl⟩)
      go_ret
      exact ⟨ret_bool Hend.out.symm, Hb.out⟩

end Go.Proofs.Ythmngaioimohaaa
