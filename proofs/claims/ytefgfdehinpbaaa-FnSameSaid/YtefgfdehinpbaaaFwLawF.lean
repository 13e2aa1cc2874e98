
/- The law on lists of orders that are the same. -/
import Derived.Test.YtefgfdehinpbaaaFwDrawD
import Derived.Test.YtefgfdehinpbaaaFwLawD
namespace Go.Proofs.Ytefgfdehinpbaaa
open Go.RowKit
set_option linter.unusedVariables false

theorem all_more {zs : List Fwd} {k : Nat} {x : Fwd} {p : Fwd → Bool} {D B : Bool} (hB : B = (D && (zs.take k).all p)) (hx : zs[k]? = some x) {B' : Bool} (h : B' = (B && p x)) : B' = (D && (zs.take (k + 1)).all p) := by
  rw [h, hB, take_snoc hx, List.all_append, Bool.and_assoc]
  simp
theorem resO_code4 {xs : List Fwd} {c : ByteArray} (h : fv xs = true) (hc : codeB c = true) : resO xs c = resolve xs c := resO_yes hc h
theorem both_code {a b : List Fwd} {x : Fwd} (ha : fv a = true) (hb : fv b = true) (hx : x ∈ a ++ b) : codeB x.1 = true := by
  rcases List.mem_append.1 hx with h | h
  · exact (fv_parts ha).frm x h
  · exact (fv_parts hb).frm x h

set_option maxRecDepth 100000 in
set_option maxHeartbeats 6400000 in
theorem law_FnSame (A : Option Addr) (c : Nat) (bs : List Int) (w : World) (h0 : Coded0 w A bs c) :
    Calls Try.prog 3 #[.slice A bs.length c] w fun e w' => e = .returned (.bool true) ∧ Below w.heap.size w w' := by
  by_cases hbig : 1048576 < bs.length
  · go_enter Try.func3, Try.ntmps3
    go_wp2_with fail
    go_ret
    exact ⟨rfl, Below.refl _ _⟩
  have Hdr := Lib.hid (draw_same4 A c bs w (h0.coded hbig))
  clear h0
  go_enter Try.func3, Try.ntmps3
  go_wp2_with fail
  refine Hdr.out.mono ?_
  rintro e w1 ⟨v, u, a, b, rfl, hD, hU, hb⟩
  have HD := Lib.hid hD
  have HU := Lib.hid hU
  have Hb := Lib.hid hb
  obtain ⟨VA, vc, rfl, _, _, _, _⟩ := own_form hD.own
  obtain ⟨UA, uc, rfl, _, _, _, _⟩ := own_form hU.own
  have hl := hD.len
  have hm := hU.len
  obtain ⟨F, hF⟩ : ∃ F, F = sameF a b := ⟨_, rfl⟩
  have HF := Lib.hid hF
  have H1 := Lib.hid (impl_same _ _ a b w1 hD.ft hU.ft hD.szf hU.szf (by omega) (by omega))
  rw [← hF] at H1
  have t1 : (F != F) = false := by simp
  have t2 : (F == F) = true := by simp
  clear hD hU hb hF Hdr
  go_wp2_with fail
  refine H1.out.mono ?_
  rintro e w2 ⟨rfl, hb2⟩
  replace HD := Lib.hid (HD.out.below hb2)
  replace HU := Lib.hid (HU.out.below hb2)
  replace Hb := Lib.hid (below_trans' Hb.out hb2)
  have H2 := Lib.hid (spec_same _ _ a b w2 HD.out.ft HU.out.ft HD.out.szf HU.out.szf (by omega) (by omega))
  rw [← HF.out] at H2
  clear H1 hb2
  go_wp2_with fail
  refine H2.out.mono ?_
  rintro e w3 ⟨rfl, hb3⟩
  replace HD := Lib.hid (HD.out.below hb3)
  replace HU := Lib.hid (HU.out.below hb3)
  replace Hb := Lib.hid (below_trans' Hb.out hb3)
  have H3 := Lib.hid (impl_fv _ a w3 HD.out.ft HD.out.szf)
  clear H2 hb3
  go_wp2_with fail
  refine H3.out.mono ?_
  rintro e w4 ⟨rfl, hb4⟩
  replace HD := Lib.hid (HD.out.below hb4)
  replace HU := Lib.hid (HU.out.below hb4)
  replace Hb := Lib.hid (below_trans' Hb.out hb4)
  have H4 := Lib.hid (impl_fv _ b w4 HU.out.ft HU.out.szf)
  clear H3 hb4
  cases hva : fv a with
  | false =>
    have H5 := Lib.hid (spec_same _ _ a b w4 HD.out.ft HU.out.ft HD.out.szf HU.out.szf (by omega) (by omega))
    rw [← HF.out] at H5
    clear hva H4
    go_wp2_with fail
    refine H5.out.mono ?_
    rintro e w5 ⟨rfl, hb5⟩
    go_wp2_with fail
    go_ret
    exact ⟨rfl, below_trans' Hb.out hb5⟩
  | true =>
    have Hva := Lib.hid hva
    clear hva
    go_wp2_with fail
    refine H4.out.mono ?_
    rintro e w5 ⟨rfl, hb5⟩
    replace HD := Lib.hid (HD.out.below hb5)
    replace HU := Lib.hid (HU.out.below hb5)
    replace Hb := Lib.hid (below_trans' Hb.out hb5)
    clear H4 hb5
    cases hvb : fv b with
    | false =>
      have H5 := Lib.hid (spec_same _ _ a b w5 HD.out.ft HU.out.ft HD.out.szf HU.out.szf (by omega) (by omega))
      rw [← HF.out] at H5
      clear hvb
      go_wp2_with fail
      refine H5.out.mono ?_
      rintro e w6 ⟨rfl, hb6⟩
      go_wp2_with fail
      go_ret
      exact ⟨rfl, below_trans' Hb.out hb6⟩
    | true =>
      have Hvb := Lib.hid hvb
      clear hvb
      obtain ⟨A0, c0, e0, hA, hn1, hn2⟩ := HD.out.ft
      injection e0 with e1 e2 e3
      subst e1 e3
      obtain ⟨A0, c0, e0, hB, hn3, hn4⟩ := HU.out.ft
      injection e0 with e1 e4 e3
      subst e1 e3
      have HA := Lib.hid hA
      have HBr := Lib.hid hB
      have hb3 := (litF0 w5).row
      have Hb3 : Hid (Below w5.heap.size w5 (w5.alloc (.cells #[] 34))) := Lib.hid ((Below.refl _ _).alloc (Nat.le_refl _) _)
      have HR1 := Lib.hid (HA.out.below Hb3.out)
      clear hA hB hb3 e2 e4
      go_wp2_with (first | (at_builtin; refine wpList_append_rd rfl (.tmp 46) (.tmp 47) 23 rfl fwd_elem (base := w5.heap.size) (.slice (some ⟨w5.heap.size, 0, none⟩) 0 0) 0 (fcs []) rfl (litF0 w5).row VA a.length vc (fcs a) rfl (cs2_length a) HR1.out (fcs_oneCell a) (by unfold maxLen; omega) (by omega) Hb3.out.size ?_; intro v6 w6 hown6 hg6 hm6; rw [Nat.zero_add, show fcs [] ++ fcs a = fcs a from rfl] at hown6; have Hb6 : Hid (Below w5.heap.size w5 w6) := Lib.hid (Hb3.out.grown hg6 Hb3.out.size (fun g e => by cases e; exact Nat.le_refl _)); obtain ⟨C6, cp6, rfl, _, _, _, _⟩ := own_form hown6; have Ho6 := Lib.hid hown6; clear hown6 hg6 hm6; have HR2 := Lib.hid (HBr.out.below Hb6.out)) | (at_builtin; refine wpList_append_rd rfl (.tmp 48) (.tmp 49) 23 rfl fwd_elem (base := w5.heap.size) (.slice C6 a.length cp6) a.length (fcs a) rfl Ho6.out UA b.length uc (fcs b) rfl (cs2_length b) HR2.out (fcs_oneCell b) (by unfold maxLen; omega) (by omega) Hb6.out.size ?_; intro v8 w8 hown8 hg8 hm8))
      have Hb8 := Lib.hid (Hb6.out.grown hg8 Hb6.out.size (fun g e => (Ho6.out.lt g e).1))
      obtain ⟨ys, hys⟩ : ∃ ys, ys = a ++ b := ⟨_, rfl⟩
      have hfl : a.length + b.length = ys.length := (by rw [hys]; simp)
      have hll : ys.length ≤ 200 := (by omega)
      rw [hfl, show fcs a ++ fcs b = fcs ys by rw [hys]; exact (cs2_append _ _).symm] at hown8
      obtain ⟨Z, zc, rfl, hz1, hz2, hZ, _⟩ := own_form hown8
      unfold maxLen at hz2
      have HZ := Lib.hid hZ
      have Hys := Lib.hid hys
      have HD8 := Lib.hid (HD.out.below Hb8.out)
      have HU8 := Lib.hid (HU.out.below Hb8.out)
      have H5 := Lib.hid (impl_endless _ a w8 HD8.out.ft HD8.out.szf (by omega))
      clear Hb3 HR1 HR2 Ho6 Hb6 hown8 hg8 hm8 hZ hfl hys
      have Hbw := Lib.hid (below_trans' Hb.out Hb8.out)
      clear HD HU Hb Hb8 HA HBr
      refine H5.out.mono ?_
      rintro e w9 ⟨ev, rfl, he, hb9⟩
      have HE := Lib.hid he.sl
      have H6 := Lib.hid (impl_endless _ b w9 (HU8.out.ft.below hb9) HU8.out.szf (by omega))
      have Hb9 := Lib.hid hb9
      clear H5 he hb9
      go_wp2_with fail
      refine H6.out.mono ?_
      rintro e w10 ⟨gv, rfl, he, hb10⟩
      have H7 := Lib.hid (soTexts_any _ _ (endless a) (endless b) w10 (HE.out.below hb10) he.sl)
      replace Hb9 := Lib.hid (below_trans' Hb9.out hb10)
      obtain ⟨D, hDD⟩ : ∃ D, D = decide (endless a = endless b) := ⟨_, rfl⟩
      rw [← hDD] at H7
      have HDD := Lib.hid hDD
      clear H6 he hb10 hDD HE
      go_wp2_with fail
      refine H7.out.mono ?_
      rintro e w11 ⟨rfl, hb11⟩
      replace Hb9 := Lib.hid (below_trans' Hb9.out hb11)
      clear H7 hb11
      go_wp2_with fail
      go_loopw [7, 8] (fun s i wr => ∃ (k : Nat) (B : Bool), k ≤ ys.length ∧ i = .int .i64 k ∧ s = .bool B ∧ Hid (B = (D && (ys.take k).all (fun r => alike a b r.1))) ∧ Hid (Below w8.heap.size w8 wr)) (fun _ i _ => ys.length - (intOf i).toNat)
      case atStart => exact ⟨0, D, Nat.zero_le _, rfl, rfl, Lib.hid (by simp), Hb9⟩
      case round =>
        obtain ⟨k, B, hk, rfl, rfl, HB, Hb10⟩ := hrel
        clear Hb9
        by_cases hlt : k < ys.length
        · obtain ⟨ad, x, rfl, hx, hcA, hcB⟩ := (HZ.out.below Hb10.out).two hlt
          simp only [ftf] at hcA hcB
          have Hx := Lib.hid hx
          have hcd : codeB x.1 = true := both_code Hva.out Hvb.out (by rw [← Hys.out]; exact List.mem_of_getElem? hx)
          have hcs : x.1.size ≤ maxLen := by have := (codeB_parts hcd).1; unfold maxLen; omega
          have H10 := Lib.hid (impl_resolve _ a x.1 wr (HD8.out.ft.below Hb10.out) HD8.out.szf (by omega) hcs)
          have H11' := Lib.hid fun (W : World) (hb : Below wr.heap.size wr W) => impl_resolve _ b x.1 W (HU8.out.ft.below (below_trans' Hb10.out hb)) HU8.out.szf (by omega) hcs
          rw [resO_code4 Hva.out hcd] at H10
          rw [resO_code4 Hvb.out hcd] at H11'
          unfold reE at H10 H11'
          clear hx hcd hcs
          cases B with
          | false =>
            have HN := Lib.hid (all_more HB.out Hx.out (p := fun r => alike a b r.1) (B' := false) (by simp))
            generalize (resolve a x.1).isSome = B1 at *
            generalize (resolve b x.1).isSome = B2 at *
            generalize reS (resolve a x.1) = S1 at *
            generalize reS (resolve b x.1) = S2 at *
            generalize reN (resolve a x.1) = N1 at *
            generalize reN (resolve b x.1) = N2 at *
            clear HB
            go_wp2_with fail
            refine H10.out.mono ?_
            rintro e w11 ⟨rfl, hb11⟩
            have hcA2 := cellF_later hb11 hcA
            have H11 := Lib.hid (H11'.out w11 hb11)
            have Hb11 := Lib.hid (below_trans' Hb10.out hb11)
            clear H10 H11' hb11 hcA hcB
            go_wp2_with fail
            refine H11.out.mono ?_
            rintro e w12 ⟨rfl, hb12⟩
            have Hb12 := Lib.hid (below_trans' Hb11.out hb12)
            clear H11 hb12 hcA2
            go_wp2_with fail
            go_roundw
            case rel => exact ⟨k + 1, false, by omega, by go_num, rfl, HN, Hb12⟩
            case measure => simp [intOf]; omega
          | true =>
            by_cases hq : (resolve a x.1).isSome = (resolve b x.1).isSome
            · have e1 : ((resolve a x.1).isSome == (resolve b x.1).isSome) = true := by simp [hq]
              by_cases hp : reS (resolve a x.1) = reS (resolve b x.1)
              · have e2 := str_same hp
                have HG := Lib.hid (alike_true hq hp)
                clear hq hp
                have HN := Lib.hid (all_more HB.out Hx.out (p := fun r => alike a b r.1) (B' := true) (by simp [HG.out]))
                generalize (resolve a x.1).isSome = B1 at *
                generalize (resolve b x.1).isSome = B2 at *
                generalize reS (resolve a x.1) = S1 at *
                generalize reS (resolve b x.1) = S2 at *
                generalize reN (resolve a x.1) = N1 at *
                generalize reN (resolve b x.1) = N2 at *
                clear HB
                go_wp2_with fail
                refine H10.out.mono ?_
                rintro e w11 ⟨rfl, hb11⟩
                have hcA2 := cellF_later hb11 hcA
                have H11 := Lib.hid (H11'.out w11 hb11)
                have Hb11 := Lib.hid (below_trans' Hb10.out hb11)
                clear H10 H11' hb11 hcA hcB
                go_wp2_with fail
                refine H11.out.mono ?_
                rintro e w12 ⟨rfl, hb12⟩
                have Hb12 := Lib.hid (below_trans' Hb11.out hb12)
                clear H11 hb12 hcA2
                go_wp2_with fail
                go_roundw
                case rel => exact ⟨k + 1, true, by omega, by go_num, rfl, HN, Hb12⟩
                case measure => simp [intOf]; omega
              · have e2 := str_diff hp
                have HG := Lib.hid (alike_str hp)
                clear hq hp
                have HN := Lib.hid (all_more HB.out Hx.out (p := fun r => alike a b r.1) (B' := false) (by simp [HG.out]))
                generalize (resolve a x.1).isSome = B1 at *
                generalize (resolve b x.1).isSome = B2 at *
                generalize reS (resolve a x.1) = S1 at *
                generalize reS (resolve b x.1) = S2 at *
                generalize reN (resolve a x.1) = N1 at *
                generalize reN (resolve b x.1) = N2 at *
                clear HB
                go_wp2_with fail
                refine H10.out.mono ?_
                rintro e w11 ⟨rfl, hb11⟩
                have hcA2 := cellF_later hb11 hcA
                have H11 := Lib.hid (H11'.out w11 hb11)
                have Hb11 := Lib.hid (below_trans' Hb10.out hb11)
                clear H10 H11' hb11 hcA hcB
                go_wp2_with fail
                refine H11.out.mono ?_
                rintro e w12 ⟨rfl, hb12⟩
                have Hb12 := Lib.hid (below_trans' Hb11.out hb12)
                clear H11 hb12 hcA2
                go_wp2_with fail
                go_roundw
                case rel => exact ⟨k + 1, false, by omega, by go_num, rfl, HN, Hb12⟩
                case measure => simp [intOf]; omega
            · have e1 : ((resolve a x.1).isSome == (resolve b x.1).isSome) = false := by simp [hq]
              have HG := Lib.hid (alike_some hq)
              clear hq
              have HN := Lib.hid (all_more HB.out Hx.out (p := fun r => alike a b r.1) (B' := false) (by simp [HG.out]))
              generalize (resolve a x.1).isSome = B1 at *
              generalize (resolve b x.1).isSome = B2 at *
              generalize reS (resolve a x.1) = S1 at *
              generalize reS (resolve b x.1) = S2 at *
              generalize reN (resolve a x.1) = N1 at *
              generalize reN (resolve b x.1) = N2 at *
              clear HB
              go_wp2_with fail
              refine H10.out.mono ?_
              rintro e w11 ⟨rfl, hb11⟩
              have hcA2 := cellF_later hb11 hcA
              have H11 := Lib.hid (H11'.out w11 hb11)
              have Hb11 := Lib.hid (below_trans' Hb10.out hb11)
              clear H10 H11' hb11 hcA hcB
              go_wp2_with fail
              refine H11.out.mono ?_
              rintro e w12 ⟨rfl, hb12⟩
              have Hb12 := Lib.hid (below_trans' Hb11.out hb12)
              clear H11 hb12 hcA2
              go_wp2_with fail
              go_roundw
              case rel => exact ⟨k + 1, false, by omega, by go_num, rfl, HN, Hb12⟩
              case measure => simp [intOf]; omega
        · have hk' : k = ys.length := by omega
          subst hk'
          have hBF : B = F := by rw [HB.out, List.take_length, HF.out, same_law Hva.out Hvb.out, HDD.out, Hys.out]
          have H12 := Lib.hid (impl_same _ _ b a wr (HU8.out.ft.below Hb10.out) (HD8.out.ft.below Hb10.out) HU8.out.szf HD8.out.szf (by omega) (by omega))
          rw [sameF_symm, ← HF.out] at H12
          clear HB
          subst hBF
          go_wp2_with fail
          refine H12.out.mono ?_
          rintro e w13 ⟨rfl, hb13⟩
          have Hb13 := Lib.hid (below_trans' Hb10.out hb13)
          have H13 := Lib.hid (impl_same _ _ a a w13 (HD8.out.ft.below Hb13.out) (HD8.out.ft.below Hb13.out) HD8.out.szf HD8.out.szf (by omega) (by omega))
          rw [sameF_self Hva.out] at H13
          clear H12 hb13
          go_wp2_with fail
          refine H13.out.mono ?_
          rintro e w14 ⟨rfl, hb14⟩
          go_wp2_with fail
          go_ret
          exact ⟨rfl, below_trans' Hbw.out (below_trans' Hb13.out hb14)⟩

end Go.Proofs.Ytefgfdehinpbaaa
