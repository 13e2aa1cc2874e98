
/- The walk of impl.NetworkValid. -/
import Derived.Test.YthmngaioimohaaaNtV
namespace Go.Proofs.Ythmngaioimohaaa
open Go.RowKit
set_option linter.unusedVariables false

set_option maxRecDepth 100000 in
set_option maxHeartbeats 2000000 in
theorem impl_nv (v : Value) (net : List Off) (w : World) (h : InO w v net) (hs : SzO net) :
    Calls Try.prog 10 #[v] w fun e w' => e = .returned (.bool (nv net)) ∧ Below w.heap.size w w' := by
  have H := Lib.hid h
  have Hs := Lib.hid hs
  obtain ⟨A, c, rfl, hc1, hc2⟩ := h.form
  unfold maxLen at hc2
  clear hs h
  by_cases hsm : (net.length : Int) < 1
  · have Hno := Lib.hid (nv_len (net := net) (by simp [inB]; omega))
    go_enter Try.func10, Try.ntmps10
    go_wp2_with fail
    go_ret
    exact ⟨ret_bool Hno.out.symm, Below.refl _ _⟩
  by_cases hbig : 8 < (net.length : Int)
  · have Hno := Lib.hid (nv_len (net := net) (by simp [inB]; omega))
    go_enter Try.func10, Try.ntmps10
    go_wp2_with fail
    go_ret
    exact ⟨ret_bool Hno.out.symm, Below.refl _ _⟩
  go_enter Try.func10, Try.ntmps10
  go_wp2_with fail
  go_loopw [17] (fun i wr => ∃ k : Nat, k ≤ net.length ∧ i = .int .i64 k ∧ Hid (Below w.heap.size w wr) ∧ Hid (NvTo net k)) (fun i _ => net.length - (intOf i).toNat)
  case atStart => exact ⟨0, Nat.zero_le _, rfl, Lib.hid (Below.refl _ _), Lib.hid (nvTo_zero _)⟩
  case round =>
    obtain ⟨k, hk, rfl, Hb, hto⟩ := hrel
    by_cases hlt : k < net.length
    · obtain ⟨ad, o, u, rfl, ho, hcA, hcB, hru⟩ := (H.out.below Hb.out).at_ hlt
      have Hru := Lib.hid hru
      obtain ⟨UA, uc, rfl, hu1, hu2, hu3⟩ := hru
      obtain ⟨q1, q2⟩ := Hs.out o (List.mem_of_getElem? ho)
      have Ho := Lib.hid ho
      have Hn := Lib.hid (fun w => impl_name o.1 w q1)
      have Q2 := Lib.hid q2
      clear ho q1 q2 hu1
      cases hnm : nameB o.1 with
      | false =>
        rw [hnm] at Hn
        have Hno := Lib.hid (nv_no Ho.out (okO_name hnm))
        clear hnm
        go_wp2_with fail
        go_quiet ((go_at_call 28; exact Calls.quiet_of_same ((Hn.out _).mono fun e w' h => ⟨h.1, h.2.symm⟩)))
        go_wp2_with fail
        go_ret
        exact ⟨ret_bool Hno.out.symm, below_drewN (Hb.out.alloc Hb.out.size _) _⟩
      | true =>
        rw [hnm] at Hn
        have Hnm := Lib.hid hnm
        clear hnm
        by_cases he : o.1 = here
        · have Hno := Lib.hid (nv_no Ho.out (okO_here he))
          have e1 := here_yes he
          clear he
          go_wp2_with fail
          go_quiet ((go_at_call 28; exact Calls.quiet_of_same ((Hn.out _).mono fun e w' h => ⟨h.1, h.2.symm⟩)))
          go_wp2_with fail
          go_ret
          exact ⟨ret_bool Hno.out.symm, below_drewN (Hb.out.alloc Hb.out.size _) _⟩
        have He := Lib.hid he
        have e1 := here_no he
        clear he
        have H2 : Hid (∀ ob, InO (wr.alloc ob) (.slice (some ad) k c) (net.take k)) := Lib.hid (fun ob => (H.out.below (Hb.out.alloc Hb.out.size ob)).take hk)
        have Hru2 : Hid (∀ ob, Rt (wr.alloc ob) (.slice UA o.2.length uc) o.2) := Lib.hid fun ob => Hru.out.below ((Below.refl _ _).alloc (Nat.le_refl _) ob)
        have HL : Hid (∀ ob, (wr.alloc ob).heap[wr.heap.size]? = some ob) := Lib.hid fun ob => heap_alloc_last wr ob
        clear Hru
        go_wp2_with fail
        go_region_with (first | (go_at_call 28; refine (Hn.out _).mono ?_; rintro e w' ⟨rfl, rfl⟩) | (go_at_call 29; refine (impl_off _ (net.take k) o.1 _ (InO.below (H2.out _) (by first | exact (Below.refl _ _).drew | exact Below.refl _ _))).mono ?_; rintro e w2 ⟨rfl, hb2⟩))
        all_goals
          have hL : w2.heap[wr.heap.size]? = some (.cells #[.string o.1, .slice UA o.2.length uc] 46 (0, 0)) := (hb2.block _ (by simp)).trans (HL.out _)
          have c2 : w2.cell? ⟨wr.heap.size, 1, none⟩ = some (.slice UA o.2.length uc) := by rw [cell_of_row _ _ _ _ _ _ hL]; rfl
          have Hl2 : Hid (wr.heap.size < w2.heap.size) := Lib.hid (Array.getElem?_eq_some_iff.1 hL).1
          have Hru := Lib.hid ((Hru2.out _).below (below_trans' (Below.refl _ _).drew hb2))
          replace Hb := Lib.hid (below_trans' (Hb.out.alloc Hb.out.size _).drew hb2)
          clear hb2 hcA hcB H2 hL HL Hru2
          rcases off_take hk o.1 with ⟨hf, hne⟩ | ⟨hf, j, y, hj, hy, hye⟩
          · have e2 : ¬ 0 ≤ offZ (net.take k) o.1 := by omega
            have Hne := Lib.hid hne
            clear hf hne
            go_wp2_with fail
            refine (impl_rv _ o.2 _ Hru.out Q2.out).mono ?_
            rintro e w3 ⟨rfl, hb3⟩
            replace Hb := Lib.hid (below_trans' Hb.out hb3)
            replace c2 := (hb3.cell (p := ⟨wr.heap.size, 1, none⟩) Hl2.out).trans c2
            replace Hru := Lib.hid (Sl.below Hru.out hb3)
            clear hb3
            cases hrv : rv o.2 with
            | false =>
              have Hno := Lib.hid (nv_no Ho.out (okO_rules hrv))
              clear hrv
              go_wp2_with fail
              go_ret
              exact ⟨ret_bool Hno.out.symm, Hb.out⟩
            | true =>
              have Hrv := Lib.hid hrv
              clear hrv
              go_wp2_with fail
              clear c2 e1 e2
              go_loopw [47] (fun i wr => ∃ m : Nat, m ≤ o.2.length ∧ i = .int .i64 m ∧ Hid (Below w.heap.size w wr) ∧ Hid (Rt wr (.slice UA o.2.length uc) o.2) ∧ Hid (Nxts net o.2 m)) (fun i _ => o.2.length - (intOf i).toNat)
              case atStart => exact ⟨0, Nat.zero_le _, rfl, Hb, Hru, Lib.hid (nxts_zero _ _)⟩
              case round =>
                clear Hb Hru
                obtain ⟨m, hm, rfl, Hb, Hru, hnx⟩ := hrel
                by_cases hml : m < o.2.length
                · obtain ⟨UA', uc', eu, hu1, hu2, hu3⟩ := Hru.out
                  injection eu with eu1 _ eu3
                  subst eu1 eu3
                  unfold maxLen at hu3
                  obtain ⟨bd, x, rfl, hx, hcC, hcD⟩ := hu1.two hml
                  have Hx := Lib.hid hx
                  simp only [rtf] at hcC hcD
                  clear hx hu1
                  by_cases hh : x.2 = here
                  · have e3 := here_yes hh
                    have Hnx := Lib.hid (nxts_step hnx.out Hx.out (.inl hh))
                    clear hh hnx
                    go_wp2_with fail
                    go_roundw
                    case rel => exact ⟨m + 1, by omega, by go_num, Lib.hid (Hb.out.alloc Hb.out.size _), Lib.hid (Sl.below Hru.out ((Below.refl _ _).alloc (Nat.le_refl _) _)), Hnx⟩
                    case measure => simp [intOf]; omega
                  · have e3 := here_no hh
                    have Hh := Lib.hid hh
                    clear hh
                    go_wp2_with fail
                    refine (impl_off _ net x.2 _ (H.out.below (Hb.out.alloc Hb.out.size _))).mono ?_
                    rintro e w4 ⟨rfl, hb4⟩
                    replace Hru := Lib.hid (Sl.below Hru.out (below_trans' ((Below.refl _ _).alloc (Nat.le_refl _) _) hb4))
                    replace Hb := Lib.hid (below_trans' (Hb.out.alloc Hb.out.size _) hb4)
                    clear hb4 hcC hcD
                    rcases offZ_cases net x.2 with ⟨e4, e5⟩ | ⟨i, r, e4, e5, _⟩
                    · have Hno := Lib.hid (nv_no Ho.out (okO_next Hx.out Hh.out e5))
                      rw [e4]
                      clear e4 e5
                      go_wp2_with fail
                      go_ret
                      exact ⟨ret_bool Hno.out.symm, Hb.out⟩
                    · have Hnx := Lib.hid (nxts_step hnx.out Hx.out (.inr ⟨i, e5⟩))
                      have hn0 : ¬ ((i : Int) < 0) := by omega
                      rw [e4]
                      clear e4 e5 hnx
                      go_wp2_with fail
                      go_roundw
                      case rel => exact ⟨m + 1, by omega, by go_num, Hb, Hru, Hnx⟩
                      case measure => simp [intOf]; omega
                · have hm' : m = o.2.length := by omega
                  subst hm'
                  have Hto := Lib.hid (nvTo_step hto.out Ho.out (okO_yes Hnm.out He.out Hrv.out hnx.out) Hne.out)
                  clear hto hnx
                  go_wp2_with fail
                  go_roundw
                  case rel => exact ⟨k + 1, by omega, by go_num, Hb, Hto⟩
                  case measure => simp [intOf]; omega
          · have Hno := Lib.hid (nv_dup hj hy Ho.out hye)
            clear hj hy hye
            go_wp2_with fail
            go_ret
            exact ⟨ret_bool Hno.out.symm, Hb.out⟩
    · have hk' : k = net.length := by omega
      subst hk'
      have Hend : Hid (nv net = true) := Lib.hid (by rw [nvTo_end hto.out]; simp [inB]; omega)
      clear hto
      go_wp2_with fail
      go_ret
      exact ⟨ret_bool Hend.out.symm, Hb.out⟩

end Go.Proofs.Ythmngaioimohaaa
