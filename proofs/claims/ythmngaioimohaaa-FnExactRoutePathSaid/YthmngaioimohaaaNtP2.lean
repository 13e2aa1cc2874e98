
/- The walk of spec.l6Path. -/
import Derived.Test.YthmngaioimohaaaNtP
import Derived.Test.YthmngaioimohaaaNt5
namespace Go.Proofs.Ythmngaioimohaaa
open Go.RowKit
set_option linter.unusedVariables false

theorem own_lits (w : World) : Own (w.alloc (.cells #[] 9)) w.heap.size (w.alloc (.cells #[] 9)).heap.size 9 1 (.slice (some ⟨w.heap.size, 0, none⟩) 0 0) 0 (strs []) := own_of (World.ownsRow_lit w #[] 0 (Nat.le_refl _) (Nat.zero_le _) rfl)
theorem map_snoc {net : List Off} {done : List Nat} {cur : Nat} {o : Off} (hc : net[cur]? = some o) : strs (done.map (nameAt net)) ++ strs [o.1] = strs ((done ++ [cur]).map (nameAt net)) := by
  rw [← strs_append, List.map_append, List.map_cons, List.map_nil, nameAt_eq hc]
theorem empty_yes : ((⟨#[]⟩ : ByteArray).toList == ([] : List UInt8)) = true := by kernel_rfl
theorem empty_no {s : ByteArray} (h : s ≠ ⟨#[]⟩) : (s.toList == ([] : List UInt8)) = false := by
  have := str_diff h
  rwa [show (⟨#[]⟩ : ByteArray).toList = [] by kernel_rfl] at this

set_option maxRecDepth 100000 in
set_option maxHeartbeats 3200000 in
theorem spec_path (v : Value) (net : List Off) (i : Nat) (o0 : Off) (c : ByteArray) (w : World) (h : InO w v net) (hs : SzO net) (hv : Nv net) (hi : net[i]? = some o0) (hc : c.size ≤ maxLen) :
    Calls Try.prog 36 #[v, .string o0.1, .string c] w fun e w' => ∃ u, e = .returned (.tuple #[u, .int .i64 (pathN net c i).2]) ∧ OS w' w.heap.size w'.heap.size u ((pathN net c i).1.map (nameAt net)) ∧ Below w.heap.size w w' := by
  have H := Lib.hid h
  have Hs := Lib.hid hs
  have Hv := Lib.hid hv
  have Hi := Lib.hid hi
  have Hc := Lib.hid hc
  have hl8 := hv.len.2
  obtain ⟨A, cc, rfl, hc1, hc2⟩ := h.form
  unfold maxLen at hc2
  have Hl0 := Lib.hid (own_lits w).row
  have Hb0 : Hid (Below w.heap.size w (w.alloc (.cells #[] 9))) := Lib.hid ((Below.refl _ _).alloc (Nat.le_refl _) _)
  have Hi8 := Lib.hid (List.getElem?_eq_some_iff.1 hi).1
  clear hs h hv hi hc
  go_enter Try.func36, Try.ntmps36
  go_wp2_with fail
  go_loopw [8, 9] (fun p s wr => ∃ (done : List Nat) (cur : Nat) (o : Off) (C : Option Addr) (cp : Nat), done.length ≤ net.length ∧ s = .string o.1 ∧ p = .slice C done.length cp ∧ Hid (net[cur]? = some o) ∧ Hid (Pt net c i done cur) ∧ Hid (Below w.heap.size w wr) ∧ Hid (wr.ownsRow w.heap.size 9 1 (.slice C done.length cp) done.length (strs (done.map (nameAt net))))) (fun p _ _ => room (net.length + 1) p)
  case atStart => exact ⟨[], i, o0, _, _, Nat.zero_le _, rfl, rfl, Hi, Lib.hid (pt_zero _ _ _), Hb0, Hl0⟩
  case round =>
    obtain ⟨done, cur, o, C, cp, hdl, rfl, rfl, Ho, HP, Hb, Hown⟩ := hrel
    clear Hl0 Hb0
    have hR := spec_rank (.slice C done.length cp) (done.map (nameAt net)) o.1 wr (by have := sl_own Hown.out; rw [IS, List.length_map]; exact this)
    have HR := Lib.hid hR
    clear hR
    go_wp2_with fail
    refine HR.out.mono ?_
    rintro e w2 ⟨⟨z, rfl, hz⟩, hb2⟩
    rw [names_mem Hv.out Ho.out HP.out.lt] at hz
    replace Hown := Lib.hid (own_below Hown.out hb2)
    replace Hb := Lib.hid (below_trans' Hb.out hb2)
    have Hba : Hid (Below w2.heap.size w2 (w2.alloc (.cells #[.string o.1] 9))) := Lib.hid ((Below.refl _ _).alloc (Nat.le_refl _) _)
    have Ho4 := Lib.hid (own_below Hown.out Hba.out)
    have Hb4 := Lib.hid (below_trans' Hb.out Hba.out)
    have Hnw := Lib.hid (rd_new w2 (strs [o.1]) 9)
    have Hms := Lib.hid (map_snoc (done := done) Ho.out)
    clear hb2 HR
    rcases hz with ⟨hin, hz0⟩ | ⟨hni, rfl⟩
    · have Hold := Lib.hid (HP.out.old hin)
      clear hin
      go_wp2_with (at_builtin; refine wpList_append_rd rfl (.tmp 17) (.tmp 19) 33 rfl str_elem (base := w.heap.size) (.slice C done.length cp) done.length (strs (done.map (nameAt net))) rfl Ho4.out (some ⟨w2.heap.size, 0, none⟩) 1 1 (strs [o.1]) rfl rfl Hnw.out (strs_oneCell _) (by unfold maxLen; omega) (by omega) Hb4.out.size ?_; intro v8 w8 hown8 hg8 hm8; rw [Hms.out] at hown8; have Hb8 : Hid (Below w.heap.size w w8) := Lib.hid (Hb4.out.grown hg8 Hb4.out.size (fun g e => (Ho4.out.lt g e).1)); have Ho8 := Lib.hid hown8; clear hown8 hg8 hm8)
      go_ret2
      refine ⟨_, by rw [Hold.out]; rfl, ?_, Hb8.out⟩
      have h9 := own_of Ho8.out
      rw [Hold.out]
      show Own _ _ _ _ _ _ ((done ++ [cur]).map (nameAt net)).length _
      rw [List.length_map, List.length_append]
      exact h9
    · have Hni := Lib.hid hni
      have hml := (pt_more HP.out (List.getElem?_eq_some_iff.1 Ho.out).1 hni).1
      clear hni
      go_wp2_with (at_builtin; refine wpList_append_rd rfl (.tmp 21) (.tmp 23) 33 rfl str_elem (base := w.heap.size) (.slice C done.length cp) done.length (strs (done.map (nameAt net))) rfl Ho4.out (some ⟨w2.heap.size, 0, none⟩) 1 1 (strs [o.1]) rfl rfl Hnw.out (strs_oneCell _) (by unfold maxLen; omega) (by omega) Hb4.out.size ?_; intro v8 w8 hown8 hg8 hm8; rw [Hms.out] at hown8; have Hb8 : Hid (Below w.heap.size w w8) := Lib.hid (Hb4.out.grown hg8 Hb4.out.size (fun g e => (Ho4.out.lt g e).1)); obtain ⟨C8, cp8, rfl, _, _, _, _⟩ := own_form hown8; have Ho8 := Lib.hid hown8; clear hown8 hg8 hm8 Ho4 Hb4 Hnw Hba Hown)
      refine (spec_off _ net o.1 _ (H.out.below Hb8.out)).mono ?_
      rintro e w5 ⟨rfl, hb5⟩
      have Hof : Hid (offZ net o.1 = (cur : Int)) := Lib.hid (by rw [offZ, Hv.out.idx Ho.out])
      rw [Hof.out]
      replace Ho8 := Lib.hid (own_below Ho8.out hb5)
      replace Hb := Lib.hid (below_trans' Hb8.out hb5)
      have hcl := (List.getElem?_eq_some_iff.1 Ho.out).1
      obtain ⟨ad, o', u, ha, ho', hcA, hcB, hru⟩ := (H.out.below Hb.out).at_ hcl
      subst ha
      rw [Ho.out] at ho'
      injection ho' with ho'
      subst ho'
      have Hru := Lib.hid hru
      obtain ⟨UA, uc, rfl, hu1, hu2, hu3⟩ := hru
      have HQ2 := Lib.hid (Hs.out o (List.mem_of_getElem? Ho.out)).2
      clear hb5 Hb8 hu1
      go_wp2_with fail
      refine (spec_next _ o.2 c _ Hru.out HQ2.out Hc.out).mono ?_
      rintro e w6 ⟨rfl, hb6⟩
      replace Ho8 := Lib.hid (own_below Ho8.out hb6)
      replace Hb := Lib.hid (below_trans' Hb.out hb6)
      clear hb6 hcA hcB Hru
      cases hnx : nextR o.2 c with
      | none =>
        have Hres := Lib.hid (pt_lost HP.out Ho.out Hni.out hnx)
        have e1 : ((orE none).toList == ([] : List UInt8)) = true := empty_yes
        clear hnx
        go_wp2_with fail
        go_ret2
        refine ⟨_, by rw [Hres.out]; rfl, ?_, Hb.out⟩
        have h9 := own_of Ho8.out
        rw [Hres.out]
        show Own _ _ _ _ _ _ ((done ++ [cur]).map (nameAt net)).length _
        rw [List.length_map, List.length_append]
        exact h9
      | some m =>
        have hnb := next_nm Hv.out (List.mem_of_getElem? Ho.out) hnx
        have e1 : ((orE (some m)).toList == ([] : List UInt8)) = false := empty_no (name_ne hnb)
        by_cases hm : m = here
        · have Hres := Lib.hid (pt_home HP.out Ho.out Hni.out (by rw [hnx, hm]))
          have e2 : ((orE (some m)).toList == [104, 101, 114, 101]) = true := here_yes hm
          clear hnx hnb hm
          go_wp2_with fail
          go_ret2
          refine ⟨_, by rw [Hres.out]; rfl, ?_, Hb.out⟩
          have h9 := own_of Ho8.out
          rw [Hres.out]
          show Own _ _ _ _ _ _ ((done ++ [cur]).map (nameAt net)).length _
          rw [List.length_map, List.length_append]
          exact h9
        · have e2 : ((orE (some m)).toList == [104, 101, 114, 101]) = false := here_no hm
          obtain ⟨j, hj⟩ := nxt_some Hv.out Ho.out hnx hm
          have HP2 := Lib.hid (pt_to HP.out Ho.out Hni.out hnx hm hj)
          obtain ⟨o2, ho2, ho2n, _⟩ := offI_some hj
          have Ho2 := Lib.hid ho2
          have Hl9 : Hid ((done ++ [cur]).length = done.length + 1) := Lib.hid (by simp)
          have Hm2 : Hid (orE (some m) = o2.1) := Lib.hid ho2n.symm
          clear hnx hnb hm hj ho2 ho2n
          go_wp2_with fail
          go_roundw
          case rel => exact ⟨done ++ [cur], j, o2, C8, cp8, by rw [Hl9.out]; omega, by rw [Hm2.out], by rw [Hl9.out], Ho2, HP2, Hb, Lib.hid (by rw [Hl9.out]; exact Ho8.out)⟩
          case measure => simp [room]; omega

end Go.Proofs.Ythmngaioimohaaa
