
/- The walks of ShrinkRules. -/
import Derived.Test.YtkfbgoahppfelaaNt5
import Derived.Test.YtkfbgoahppfelaaNt6
import Derived.Deep.RegionWith
namespace Go.Proofs.Ytkfbgoahppfelaa
open Go.RowKit
set_option linter.unusedVariables false

theorem Rd.dropR {w : World} {ad : Addr} {xs : List Rul} (h : Rd w (some ad) (rcs xs)) (k : Nat) : Rd w (some (ad.add (k * 2))) (rcs (xs.drop k)) := by
  intro j u hu
  have hd : rcs (xs.drop k) = (rcs xs).drop (k * 2) := (cs2_drop xs k).symm
  rw [hd, List.getElem?_drop] at hu
  obtain ⟨ad2, e2, hc2⟩ := h _ _ hu
  injection e2 with e2
  subst e2
  refine ⟨_, rfl, ?_⟩
  have e3 : (ad.add (k * 2)).add j = ad.add (k * 2 + j) := by
    unfold Addr.add
    split <;> split <;> simp_all <;> omega
  rw [e3]; exact hc2
theorem Rd.dropI {w : World} {ad : Addr} {c : Nat} {xs : List Rul} (h : Rd w (some ad) (rcs xs)) {k : Nat} (hc : xs.length ≤ c) : Rd w (if c = k + 1 then some ad else some (ad.add ((k + 1) * 2))) (rcs (xs.drop (k + 1))) := by
  split
  · rw [List.drop_of_length_le (by omega)]; exact Rd.nil _ _
  · exact h.dropR _
theorem drop_app {xs : List Rul} {k : Nat} : rcs (xs.take k) ++ rcs (xs.drop (k + 1)) = rcs (dropAt xs k) := by
  rw [dropAt]; exact (cs2_append _ _).symm
theorem drop_num {xs : List Rul} {k : Nat} (h : k < xs.length) : k + (xs.length - (k + 1)) = (dropAt xs k).length := by
  rw [dropAt, List.length_append, List.length_take, List.length_drop]; omega

set_option maxRecDepth 100000 in
set_option maxHeartbeats 1600000 in
theorem spec_without (v : Value) (xs : List Rul) (k : Nat) (w : World) (h : Rt w v xs) (hl : xs.length ≤ 1048576) (hk : k < xs.length) :
    Calls Try.prog 61 #[v, .int .i64 k] w fun e w' => ∃ u, e = .returned u ∧ OR w' w.heap.size w'.heap.size u (dropAt xs k) ∧ Below w.heap.size w w' := by
  obtain ⟨A, c, rfl, hA, hc1, hc2⟩ := h
  have Hc2 := Lib.hid hc2
  unfold maxLen at hc2
  have Hl0 := Lib.hid (own_lit0 w).row
  have Hb0 : Hid (Below w.heap.size w (w.alloc (.cells #[] 31))) := Lib.hid ((Below.refl _ _).alloc (Nat.le_refl _) _)
  have HA := Lib.hid (hA.below Hb0.out)
  obtain ⟨ad, x, rfl, _, _, _⟩ := hA.two hk
  have HA0 := Lib.hid hA
  have HT : Hid (Rt (w.alloc (.cells #[] 31)) (.slice (some ad) k c) (xs.take k)) := Lib.hid (Rt.take HA.out (by omega) hc1 Hc2.out)
  have htl : (xs.take k).length = k := by rw [List.length_take]; omega
  have Htl := Lib.hid htl
  have hRT : Rd (w.alloc (.cells #[] 31)) (some ad) (rcs (xs.take k)) := by
    show Rd _ _ (cs2 rtf (xs.take k))
    rw [← cs2_take]; exact HA.out.take _
  have HRT := Lib.hid hRT
  clear hA htl hRT
  go_enter Try.func61, Try.ntmps61
  go_wp2_with (first | (at_builtin; refine wpList_append_rd rfl (.tmp 6) (.tmp 9) 23 rfl rul_elem (base := w.heap.size) (.slice (some ⟨w.heap.size, 0, none⟩) 0 0) 0 (rcs []) rfl Hl0.out (some ad) k c (rcs (xs.take k)) rfl (by rw [cs2_length, Htl.out]) HRT.out (rcs_oneCell _) (by unfold maxLen; omega) (by omega) (by simp) ?_; intro v5 w5 hown5 hg5 hm5; rw [Nat.zero_add, show rcs [] ++ rcs (xs.take k) = rcs (xs.take k) from rfl] at hown5; have Hb2 : Hid (Below w.heap.size w w5) := Lib.hid (Hb0.out.grown hg5 (by simp) (fun g e => by cases e; exact Nat.le_refl _)); obtain ⟨C5, cp5, rfl, _, _, _, _⟩ := own_form hown5; have Ho2 := Lib.hid hown5; clear hown5 hg5 hm5; have HDp := Lib.hid (Rd.dropI (k := k) (HA0.out.below Hb2.out) hc1)) | (at_builtin; refine wpList_append_rd rfl (.tmp 11) (.tmp 15) 23 rfl rul_elem (base := w.heap.size) (.slice C5 k cp5) k (rcs (xs.take k)) rfl Ho2.out (if c = k + 1 then some ad else some (ad.add ((k + 1) * 2))) (xs.length - (k + 1)) (c - (k + 1)) (rcs (xs.drop (k + 1))) rfl (by rw [cs2_length, List.length_drop]) HDp.out (rcs_oneCell _) (by unfold maxLen; omega) (by omega) Hb2.out.size ?_; intro v8 w8 hown8 hg8 hm8; rw [drop_app, drop_num (by omega)] at hown8; have Hb8 : Hid (Below w.heap.size w w8) := Lib.hid (Hb2.out.grown hg8 Hb2.out.size (fun g e => (Ho2.out.lt g e).1)); have Ho8 := Lib.hid hown8; clear hown8 hg8 hm8))
  all_goals
    go_ret
    exact ⟨_, rfl, own_of Ho8.out, Hb8.out⟩


theorem shrink_no {rs : List Rul} (h : rv rs = false) : shrink rs = [] := by simp [shrink, h]
theorem shrink_yes {rs : List Rul} (h : rv rs = true) : shrink rs = shrinkTo rs rs.length := by simp [shrink, h]
theorem shrink_small (rs : List Rul) : SmR (shrink rs) := by
  cases h : rv rs with
  | false => rw [shrink_no h]; exact small_nil
  | true => exact rv_small (shrink_rv h)
theorem keeps_str {rs : List Rul} {k : Nat} {x : Rul} (hv : rv rs = true) (hx : rs[k]? = some x) : keeps rs k x = !((orE (nextR (dropAt rs k) x.1)).toList == x.2.toList) := by
  have hn := (rv_parts hv).name x (List.mem_of_getElem? hx)
  rw [str_eq, keeps]
  cases ho : nextR (dropAt rs k) x.1 with
  | none =>
    have : orE none ≠ x.2 := by
      intro e
      rw [← e, nameB_low (by left; show (0 : Nat) < 1; omega)] at hn
      cases hn
    simp [this]
  | some s => by_cases e : s = x.2 <;> simp [orE, e]
theorem shrink_len (rs : List Rul) (k : Nat) (hl : rs.length ≤ 20) : (shrinkTo rs k).length ≤ 20 := by
  have := (shrinkTo_sub rs k).length_le
  rw [List.length_take] at this; omega
theorem dropAt_szr {rs : List Rul} {k : Nat} (h : Szr rs) : Szr (dropAt rs k) := fun x hx => h x (dropAt_mem hx)

set_option maxRecDepth 100000 in
set_option maxHeartbeats 1600000 in
theorem spec_shrink (v : Value) (xs : List Rul) (w : World) (h : Rt w v xs) (hs : Szr xs) :
    Calls Try.prog 26 #[v] w fun e w' => ∃ u, e = .returned u ∧ OR w' w.heap.size w'.heap.size u (shrink xs) ∧ Below w.heap.size w w' := by
  have H := Lib.hid h
  have Hs := Lib.hid hs
  obtain ⟨A, c, rfl, hA, hc1, hc2⟩ := h
  unfold maxLen at hc2
  have HA := Lib.hid hA
  have Hl0 := Lib.hid (own_lit0 w).row
  have Hb0 : Hid (Below w.heap.size w (w.alloc (.cells #[] 31))) := Lib.hid ((Below.refl _ _).alloc (Nat.le_refl _) _)
  clear hs hA
  cases hrv : rv xs with
  | false =>
    have Hno := Lib.hid (shrink_no hrv)
    have Hrv := Lib.hid hrv
    clear hrv
    go_enter Try.func26, Try.ntmps26
    go_wp2_with fail
    go_loopw [3, 4] (fun o i wr => i = .int .i64 0 ∧ o = .slice (some ⟨w.heap.size, 0, none⟩) 0 0 ∧ wr = w.alloc (.cells #[] 31)) (fun _ i _ => 0)
    case atStart => exact ⟨rfl, rfl, rfl⟩
    case round =>
      obtain ⟨rfl, rfl, rfl⟩ := hrel
      by_cases h0 : 0 < xs.length
      · have H1 := spec_rv _ xs _ (H.out.below Hb0.out) Hs.out
        rw [Hrv.out] at H1
        have H1 := Lib.hid H1
        have h0' : (0 : Int) < (xs.length : Int) := by omega
        go_wp2_with fail
        refine H1.out.mono ?_
        rintro e w2 ⟨rfl, hb2⟩
        go_wp2_with fail
        go_ret
        exact ⟨_, rfl, by rw [Hno.out]; exact ((own_lit0 w).below hb2).wide (Nat.le_refl _) hb2.size, below_trans' Hb0.out hb2⟩
      · have h0' : ¬ (0 : Int) < (xs.length : Int) := by omega
        clear h0
        go_wp2_with fail
        go_ret
        exact ⟨_, rfl, by rw [Hno.out]; exact own_lit0 w, Hb0.out⟩
  | true =>
    have Hyes := Lib.hid (shrink_yes hrv)
    have Hrv := Lib.hid hrv
    have hl20 := (rv_parts hrv).len
    clear hrv
    go_enter Try.func26, Try.ntmps26
    go_wp2_with fail
    go_loopw [3, 4] (fun o i wr => ∃ (k : Nat) (u0 : Value), k ≤ xs.length ∧ i = .int .i64 k ∧ u0 = o ∧ Hid (Below w.heap.size w wr) ∧ Hid (wr.ownsRow w.heap.size 31 2 u0 (shrinkTo xs k).length (rcs (shrinkTo xs k)))) (fun _ i _ => xs.length - (intOf i).toNat)
    case atStart => exact ⟨0, _, Nat.zero_le _, rfl, rfl, Hb0, Hl0⟩
    case round =>
      obtain ⟨k, u0, hk, rfl, rfl, Hb, Hown⟩ := hrel
      clear Hb0 Hl0
      by_cases hlt : k < xs.length
      · have H1 := spec_rv _ xs wr (H.out.below Hb.out) Hs.out
        rw [Hrv.out] at H1
        have H1 := Lib.hid H1
        go_wp2_with fail
        refine H1.out.mono ?_
        rintro e w2 ⟨rfl, hb2⟩
        have Hb2 := Lib.hid (below_trans' Hb.out hb2)
        have Hown2 := Lib.hid (own_below Hown.out hb2)
        have H2 := Lib.hid (spec_without _ xs k w2 (H.out.below Hb2.out) (by omega) hlt)
        clear H1 hb2 Hb Hown
        go_wp2_with fail
        refine H2.out.mono ?_
        rintro e w3 ⟨z, rfl, hz, hb3⟩
        have Hb3 := Lib.hid (below_trans' Hb2.out hb3)
        have Hown3 := Lib.hid (own_below Hown2.out hb3)
        obtain ⟨ad, x, rfl, hx, hcA, hcB⟩ := (HA.out.below Hb3.out).two hlt
        simp only [rtf] at hcA hcB
        have Hx := Lib.hid hx
        have hxs := Hs.out x (List.mem_of_getElem? hx)
        have H4 := Lib.hid (fun w' (hb : Below w3.heap.size w3 w') => spec_next z (dropAt xs k) x.1 w' (hz.in_.below hb) (dropAt_szr Hs.out) hxs.1)
        have hkp := keeps_str Hrv.out hx
        clear H2 hb3 Hb2 Hown2 hz hx hxs
        have Hle := Lib.hid (shrink_len xs k hl20)
        cases hke : keeps xs k x with
        | false =>
          rw [hke] at hkp
          have hkp' : ((orE (nextR (dropAt xs k) x.1)).toList == x.2.toList) = true := by simpa using hkp.symm
          have Hst := Lib.hid (shrinkTo_no Hx.out hke)
          clear hkp hke
          generalize orE (nextR (dropAt xs k) x.1) = N at *
          go_wp2_with fail
          go_region_with ((go_at_call 50; refine (H4.out _ (by first | exact (Below.refl _ _).drew | exact Below.refl _ _)).mono ?_; rintro e w4 ⟨rfl, hb4⟩; have hcB4 := cell_later hb4 hcB))
          all_goals
            have Hb4 := Lib.hid (below_trans' Hb3.out.drew hb4)
            have Hown4 := Lib.hid (own_below (own_below Hown3.out (below_of_drewN _ _)) hb4)
            go_wp2_with fail
            go_roundw
            case rel => exact ⟨k + 1, _, by omega, by go_num, rfl, Hb4, by rw [Hst.out]; exact Hown4⟩
            case measure => simp [intOf]; omega
        | true =>
          rw [hke] at hkp
          have hkp' : ((orE (nextR (dropAt xs k) x.1)).toList == x.2.toList) = false := by simpa using hkp.symm
          have Hst := Lib.hid (shrinkTo_yes Hx.out hke)
          clear hkp hke
          generalize orE (nextR (dropAt xs k) x.1) = N at *
          obtain ⟨C, cp, rfl, _, _, _, _⟩ := own_form Hown3.out
          go_wp2_with fail
          go_region_with ((go_at_call 50; refine (H4.out _ (by first | exact (Below.refl _ _).drew | exact Below.refl _ _)).mono ?_; rintro e w4 ⟨rfl, hb4⟩; have hcA4 := cell_later hb4 hcA; have hcB4 := cell_later hb4 hcB))
          all_goals
            have Hb4 := Lib.hid (below_trans' Hb3.out.drew hb4)
            have Hown4 := Lib.hid (own_below (own_below Hown3.out (below_of_drewN _ _)) hb4)
            have hbl : Below w4.heap.size w4 (w4.alloc (.cells #[.string x.1, .string x.2] 31)) := (Below.refl _ _).alloc (Nat.le_refl _) _
            have Ho4 := Lib.hid (own_below Hown4.out hbl)
            have Hb5 := Lib.hid (Hb4.out.alloc Hb4.out.size (.cells #[.string x.1, .string x.2] 31))
            have Hnw := Lib.hid (rd_new w4 (rcs [x]) 31)
            have hle := Hle.out
            clear hbl
            go_wp2_with (at_builtin; refine wpList_append_rd rfl (.tmp 33) (.tmp 38) 23 rfl rul_elem (base := w.heap.size) (.slice C (shrinkTo xs k).length cp) (shrinkTo xs k).length (rcs (shrinkTo xs k)) rfl Ho4.out (some ⟨w4.heap.size, 0, none⟩) 1 1 (rcs [x]) rfl rfl Hnw.out (rcs_oneCell _) (by unfold maxLen; omega) (by omega) Hb5.out.size ?_; intro v6 w6 hown6 hg6 hm6)
            have Hb6 := Lib.hid (Hb5.out.grown hg6 Hb5.out.size (fun g e => (Ho4.out.lt g e).1))
            have Ho6 : Hid (w6.ownsRow w.heap.size 31 2 v6 (shrinkTo xs (k + 1)).length (rcs (shrinkTo xs (k + 1)))) := Lib.hid (by
              rw [Hst.out, List.length_append, show rcs (shrinkTo xs k ++ [x]) = rcs (shrinkTo xs k) ++ rcs [x] from cs2_append _ _]; exact hown6)
            clear hown6 hg6 hm6 Ho4 Hnw
            go_roundw
            case rel => exact ⟨k + 1, _, by omega, by go_num, rfl, Hb6, Ho6⟩
            case measure => simp [intOf]; omega
      · have hk' : k = xs.length := by omega
        subst hk'
        go_wp2_with fail
        go_ret
        exact ⟨_, rfl, by rw [Hyes.out]; exact own_of Hown.out, Hb.out⟩

end Go.Proofs.Ytkfbgoahppfelaa
