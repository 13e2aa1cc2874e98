
/- The walks of RoutePath. -/
import Derived.Test.YthmngaioimohaaaNtP3
namespace Go.Proofs.Ythmngaioimohaaa
open Go.RowKit
set_option linter.unusedVariables false

theorem os_nil_spec {w w1 : World} {L : List ByteArray} (h : L = []) (hb : Below w.heap.size w w1) : OS (w1.alloc (.cells #[] 9)) w.heap.size (w1.alloc (.cells #[] 9)).heap.size (.slice (some ⟨w1.heap.size, 0, none⟩) 0 0) L := by
  subst h; exact (own_lits w1).wide hb.size (Nat.le_refl _)
theorem os_nil_impl {w w1 : World} {L : List ByteArray} (h : L = []) : OS w1 w.heap.size w1.heap.size (.slice none 0 0) L := by
  subst h; exact own_nil _ _ _ _ _

set_option maxRecDepth 100000 in
set_option maxHeartbeats 1600000 in
theorem spec_rp (v : Value) (net : List Off) (s c : ByteArray) (w : World) (h : InO w v net) (hs : SzO net) (hq1 : s.size ≤ maxLen) (hc : c.size ≤ maxLen) :
    Calls Try.prog 16 #[v, .string s, .string c] w fun e w' => ∃ u, e = .returned (.tuple #[u, .int .i64 (rpath net s c).2]) ∧ OS w' w.heap.size w'.heap.size u (rpath net s c).1 ∧ Below w.heap.size w w' := by
  have H := Lib.hid h
  have Hs := Lib.hid hs
  have H1 := Lib.hid (spec_nv v net w h hs)
  have H3 := Lib.hid (fun w => spec_cv c w hc)
  have Hc := Lib.hid hc
  obtain ⟨A, cc, rfl, hc1, hc2⟩ := h.form
  clear hs h hc hc1 hc2
  go_enter Try.func16, Try.ntmps16
  go_wp2_with fail
  refine H1.out.mono ?_
  rintro e w1 ⟨rfl, hb1⟩
  have Hb1 := Lib.hid hb1
  clear H1 hb1
  cases hnv : nv net with
  | false =>
    have Hno := Lib.hid (rpath_no_net (s := s) (c := c) hnv)
    clear hnv
    go_wp2_with fail
    go_ret2
    exact ⟨_, by rw [Hno.out]; rfl, os_nil_spec (by rw [Hno.out]) Hb1.out, Hb1.out.alloc Hb1.out.size _⟩
  | true =>
    have Hnv := Lib.hid hnv
    clear hnv
    go_wp2_with fail
    refine (spec_off _ net s _ (H.out.below Hb1.out)).mono ?_
    rintro e w2 ⟨rfl, hb2⟩
    have Hb2 := Lib.hid (below_trans' Hb1.out hb2)
    clear hb2 Hb1
    rcases offZ_cases net s with ⟨e4, e5⟩ | ⟨i, r, e4, e5, hr, hrn, hil, _⟩
    · have Hno := Lib.hid (rpath_no_office (c := c) e5)
      rw [e4]
      clear e4 e5
      go_wp2_with fail
      go_ret2
      exact ⟨_, by rw [Hno.out]; rfl, os_nil_spec (by rw [Hno.out]) Hb2.out, Hb2.out.alloc Hb2.out.size _⟩
    · have hn0 : ¬ ((i : Int) < 0) := by omega
      have Hoff := Lib.hid e5
      have Hr := Lib.hid hr
      rw [e4]
      subst hrn
      clear e4 e5 hr
      go_wp2_with fail
      refine (H3.out _).mono ?_
      rintro e w3 ⟨rfl, rfl⟩
      cases hcb : codeB c with
      | false =>
        have Hno := Lib.hid (rpath_no_code (net := net) (s := r.1) hcb)
        clear hcb
        go_wp2_with fail
        go_ret2
        exact ⟨_, by rw [Hno.out]; rfl, os_nil_spec (by rw [Hno.out]) Hb2.out, Hb2.out.alloc Hb2.out.size _⟩
      | true =>
        have Hyes := Lib.hid (rpath_yes Hoff.out Hnv.out hcb)
        clear hcb
        go_wp2_with fail
        refine (spec_path _ net i r c _ (H.out.below Hb2.out) Hs.out (nv_parts Hnv.out) Hr.out Hc.out).mono ?_
        rintro e w4 ⟨u, rfl, hu, hb4⟩
        have Hu := Lib.hid hu
        have Hb4 := Lib.hid (below_trans' Hb2.out hb4)
        clear hu hb4
        go_wp2_with fail
        go_ret2
        exact ⟨_, by rw [Hyes.out]; rfl, by rw [Hyes.out]; exact Own.wide Hu.out Hb2.out.size (Nat.le_refl _), Hb4.out⟩

set_option maxRecDepth 100000 in
set_option maxHeartbeats 3200000 in
theorem impl_rp (v : Value) (net : List Off) (s c : ByteArray) (w : World) (h : InO w v net) (hs : SzO net) (hq1 : s.size ≤ maxLen) (hc : c.size ≤ maxLen) :
    Calls Try.prog 17 #[v, .string s, .string c] w fun e w' => ∃ u, e = .returned (.tuple #[u, .int .i64 (rpath net s c).2]) ∧ OS w' w.heap.size w'.heap.size u (rpath net s c).1 ∧ Below w.heap.size w w' := by
  have H := Lib.hid h
  have Hs := Lib.hid hs
  have H1 := Lib.hid (impl_off v net s w h)
  have H3 := Lib.hid (fun w => impl_cv c w hc)
  have Hc := Lib.hid hc
  obtain ⟨A, cc, rfl, hc1, hc2⟩ := h.form
  unfold maxLen at hc2
  clear hs h hc
  go_enter Try.func17, Try.ntmps17
  go_wp2_with fail
  refine H1.out.mono ?_
  rintro e w1 ⟨rfl, hb1⟩
  have Hb1 := Lib.hid hb1
  have H2 := Lib.hid (impl_nv _ net w1 (H.out.below hb1) Hs.out)
  clear H1 hb1
  rcases offZ_cases net s with ⟨e4, e5⟩ | ⟨i, r, e4, e5, hr, hrn, hil, _⟩
  · have Hno := Lib.hid (rpath_no_office (c := c) e5)
    rw [e4]
    clear e4 e5
    go_wp2_with fail
    refine H2.out.mono ?_
    rintro e w2 ⟨rfl, hb2⟩
    have Hb2 := Lib.hid (below_trans' Hb1.out hb2)
    clear hb2
    cases hnv : nv net with
    | false =>
      clear hnv
      go_wp2_with fail
      go_ret2
      exact ⟨_, by rw [Hno.out]; rfl, os_nil_impl (by rw [Hno.out]), Hb2.out⟩
    | true =>
      clear hnv
      go_wp2_with fail
      go_ret2
      exact ⟨_, by rw [Hno.out]; rfl, os_nil_impl (by rw [Hno.out]), Hb2.out⟩
  · have hn0 : ¬ ((i : Int) < 0) := by omega
    have Hoff := Lib.hid e5
    rw [e4]
    clear e4 e5 hr hrn
    go_wp2_with fail
    refine H2.out.mono ?_
    rintro e w2 ⟨rfl, hb2⟩
    have Hb2 := Lib.hid (below_trans' Hb1.out hb2)
    clear hb2 H2
    cases hnv : nv net with
    | false =>
      have Hno := Lib.hid (rpath_no_net (s := s) (c := c) hnv)
      clear hnv
      go_wp2_with fail
      go_ret2
      exact ⟨_, by rw [Hno.out]; rfl, os_nil_impl (by rw [Hno.out]), Hb2.out⟩
    | true =>
      have Hnv := Lib.hid hnv
      have hl8 := (nv_parts hnv).len.2
      clear hnv
      go_wp2_with fail
      refine (H3.out _).mono ?_
      rintro e w3 ⟨rfl, rfl⟩
      cases hcb : codeB c with
      | false =>
        have Hno := Lib.hid (rpath_no_code (net := net) (s := s) hcb)
        clear hcb
        go_wp2_with fail
        go_ret2
        exact ⟨_, by rw [Hno.out]; rfl, os_nil_impl (by rw [Hno.out]), Hb2.out⟩
      | true =>
        have Hyes := Lib.hid (rpath_yes Hoff.out Hnv.out hcb)
        clear hcb
        go_wp2_with fail
        refine (impl_route _ net i c _ (H.out.below Hb2.out) Hs.out (nv_parts Hnv.out) hil Hc.out).mono ?_
        rintro e w4 ⟨u, rfl, hu, hb4⟩
        obtain ⟨_, hpl, hpa⟩ := path_ok (c := c) hil
        have Hpa := Lib.hid hpa
        have Hu := Lib.hid (Own.wide hu (Nat.zero_le _) (Nat.le_refl _))
        have Hb4 := Lib.hid (below_trans' Hb2.out hb4)
        obtain ⟨D, d, e9, _, _, _, _⟩ := own_form hu.row
        subst e9
        clear hu hb4 hpa Hoff
        generalize pathN net c i = R at *
        obtain ⟨P, E⟩ := R
        simp only at *
        obtain ⟨i0, hi, hz0, hz1, hz2⟩ := info_parts str_info
        go_wp2_with (at_make; refine wpList_make_full _ rfl _ _ _ rfl w.heap.size 9 i0 _ 1 Try.underlying33 hi hz0 hz1 _ _ _ _ P.length rfl rfl rfl rfl (by rw [hz2]; omega) (by unfold maxLen; omega) Hb4.out.size ?_; intro w5 hown5 hg5)
        have Hb5 : Hid (Below w.heap.size w w5) := Lib.hid (Hb4.out.grown hg5 Hb4.out.size (by simp))
        have Hu5 : Hid (Own w5 0 w4.heap.size 3 1 (.slice D P.length d) P.length (ints (natI P))) := Lib.hid (Own.below Hu.out ((Below.refl w4.heap.size w4).grown hg5 (Nat.le_refl _) (by simp)))
        have H0 : Hid (∃ ys, Filled ys (P.map (nameAt net)) 0 ∧ w5.ownsRow w.heap.size 9 1 (.slice (some ⟨w4.heap.size, 0, none⟩) P.length P.length) P.length (strs ys)) := Lib.hid ⟨List.replicate P.length ⟨#[]⟩, ⟨by simp, by simp⟩, by rw [made_strs] at hown5; exact hown5⟩
        have Hg := Lib.hid Hb4.out.size
        clear hown5 hg5 Hu
        go_loopw [41] (fun i wr => ∃ k : Nat, k ≤ P.length ∧ i = .int .i64 k ∧ Hid (Below w.heap.size w wr) ∧ Hid (Own wr 0 w4.heap.size 3 1 (.slice D P.length d) P.length (ints (natI P))) ∧ Hid (∃ ys, Filled ys (P.map (nameAt net)) k ∧ wr.ownsRow w.heap.size 9 1 (.slice (some ⟨w4.heap.size, 0, none⟩) P.length P.length) P.length (strs ys))) (fun i _ => P.length - (intOf i).toNat)
        case atStart => exact ⟨0, Nat.zero_le _, rfl, Hb5, Hu5, H0⟩
        case round =>
          obtain ⟨k, hk, rfl, Hb, Hu, Hys⟩ := hrel
          clear H0 Hb5 Hu5
          by_cases hlt : k < P.length
          · have hpk := List.getElem?_eq_getElem hlt
            generalize P[k] = a at hpk
            have hal := Hpa.out a (List.mem_of_getElem? hpk)
            obtain ⟨D', d', eD, hA, _, _⟩ := Own.sl Hu.out
            injection eD with eD1 _ _
            subst eD1
            obtain ⟨pd, rfl, hcP⟩ := hA k _ (natI_get hpk)
            obtain ⟨ad, o, u, rfl, ho, hcA, hcB, hru⟩ := (H.out.below Hb.out).at_ hal
            obtain ⟨UA, uc, rfl, hu1, hu2, hu3⟩ := hru
            obtain ⟨ys, hf, hown⟩ := Hys.out
            have Hml : Hid ((P.map (nameAt net)).length = P.length) := Lib.hid (List.length_map _)
            have hyk : k < ys.length := Nat.lt_of_lt_of_eq (Nat.lt_of_lt_of_eq hlt Hml.out.symm) hf.len.symm
            have hc3 : wr.cell? ⟨w4.heap.size, k, none⟩ = some (.string ys[k]) := (hown.cellAt _ (by omega)).trans (strs_get (List.getElem?_eq_getElem hyk))
            have hf3 : wr.frozen? ⟨w4.heap.size, k, none⟩ = false := hown.frozenAt _
            have Hf := Lib.hid (hf.step (show (P.map (nameAt net))[k]? = some o.1 by rw [List.getElem?_map, hpk]; simp [nameAt_eq ho]))
            have hst := (hown.stored k (.string o.1)).1
            rw [strs_set] at hst
            have Hst := Lib.hid hst
            have HB : Hid (Below w.heap.size w (wr.setCell ⟨w4.heap.size, k, none⟩ (.string o.1))) := Lib.hid (Hb.out.setCell Hg.out _)
            have HU : Hid (Own (wr.setCell ⟨w4.heap.size, k, none⟩ (.string o.1)) 0 w4.heap.size 3 1 (.slice (some pd) P.length d) P.length (ints (natI P))) := Lib.hid (Own.only Hu.out (lo' := w4.heap.size) (hi' := w4.heap.size + 1) (Only.grown (set_grown _ _ _) (fun g e => by injection e with e; simp at e; omega)) (.inl (Nat.le_refl _)))
            clear hpk ho hu1 hA hf hown hst
            go_wp2_with fail
            go_roundw
            case rel => exact ⟨k + 1, by omega, by go_num, HB, HU, Lib.hid ⟨_, Hf.out, Hst.out⟩⟩
            case measure => simp [intOf]; omega
          · have hk' : k = P.length := by omega
            subst hk'
            obtain ⟨ys, hf, hown⟩ := Hys.out
            have hys : ys = P.map (nameAt net) := by
              have := hf.head
              rwa [List.take_of_length_le (by rw [hf.len]; simp), List.take_of_length_le (by simp)] at this
            subst hys
            have Hown := Lib.hid hown
            clear hf hown
            go_wp2_with fail
            go_ret2
            refine ⟨_, by rw [Hyes.out]; rfl, ?_, Hb.out⟩
            rw [Hyes.out]
            show Own _ _ _ _ _ _ (P.map (nameAt net)).length _
            rw [List.length_map]
            exact own_of Hown.out

end Go.Proofs.Ythmngaioimohaaa
