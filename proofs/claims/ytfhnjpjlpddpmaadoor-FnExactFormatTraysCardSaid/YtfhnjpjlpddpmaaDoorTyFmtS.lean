
/- The text of trays, by the reference's function. -/
import Derived.Test.YtfhnjpjlpddpmaaDoorTyNum
import Derived.Deep.RegionHeld3
namespace Go.Proofs.YtfhnjpjlpddpmaaDoor
open Go.RowKit
set_option linter.unusedVariables false

set_option maxRecDepth 100000 in
set_option maxHeartbeats 1600000 in
theorem spec_fmtT (v : Value) (xss : List (List Ltr)) (w : World) (h : LtS w v xss) (hs : ∀ xs ∈ xss, Szs xs) :
    Calls Tryd.prog 6 #[v] w fun e w' => e = .returned (.string (fmtT xss)) ∧ Below w.heap.size w w' := by
  have H1 := Lib.hid (spec_tv v xss 20 w h hs)
  have Hs := Lib.hid hs
  obtain ⟨us, ⟨A, c, rfl, hA, hc1, hc2⟩, hus⟩ := h
  unfold maxLen at hc2
  have HA := Lib.hid hA
  have Hus := Lib.hid hus
  have Hul := Lib.hid hus.len
  clear hs hA hus
  go_enter Tryd.func6, Tryd.ntmps6
  go_wp2_with fail
  refine H1.out.mono ?_
  rintro e w1 ⟨rfl, hb1⟩
  have Hb1 := Lib.hid hb1
  clear H1 hb1
  cases htv : tv xss 20 with
  | false =>
    have Hno := Lib.hid (fmtT_no htv)
    clear htv
    go_wp2_with fail
    go_ret
    exact ⟨ret_str Hno.out.symm, Hb1.out⟩
  | true =>
    have Htv := Lib.hid htv
    have hl60 : us.length ≤ 60 := by rw [Hul.out]; exact (tv_parts htv).2.2.1
    have HP := Lib.hid (prs_size xss)
    clear htv
    go_wp2_with fail
    go_loopw [3, 4] (fun o i wr => ∃ (k : Nat) (s : ByteArray), k ≤ us.length ∧ i = .int .i64 k ∧ o = .string s ∧ Hid (s = fmT (prs xss) k) ∧ s.size ≤ 1200 ∧ Hid (Below w.heap.size w wr)) (fun _ i _ => us.length - (intOf i).toNat)
    case atStart => exact ⟨0, ⟨#[]⟩, Nat.zero_le _, rfl, rfl, Lib.hid rfl, by show (0 : Nat) ≤ 1200; omega, Hb1⟩
    case round =>
      obtain ⟨k, s, hk, rfl, rfl, Hse, hss, Hb⟩ := hrel
      by_cases hlt : k < us.length
      · obtain ⟨p, x, hp, hx, hpx⟩ := Hus.out.at_ (k := k) (by have := Hul.out; omega)
        obtain ⟨ad, rfl, hcA⟩ := (HA.out.below Hb.out) k _ hp
        have hpx' := hpx.below Hb.out
        have Hpx := Lib.hid hpx'
        obtain ⟨PA, pc, rfl, _, hx1, hx2⟩ := hpx
        have Hsx := Lib.hid (Hs.out x (List.mem_of_getElem? hx))
        have hlx : x.length < 100 := by have := ((tv_parts Htv.out).1 x (List.mem_of_getElem? hx)).2; omega
        have hls := label_size x
        have hns := (num_size x.length).2
        have hle := fm_size HP.out (k + 1)
        have z1 : (⟨#[58]⟩ : ByteArray).size = 1 := rfl
        have z2 : (⟨#[32]⟩ : ByteArray).size = 1 := rfl
        have hxp := prs_get hx
        clear hp hx hpx'
        by_cases h0 : 0 < k
        · have h0' : (0 : Int) < (k : Int) := by omega
          have Hnx : Hid (s ++ ⟨#[32]⟩ ++ label x ++ ⟨#[58]⟩ ++ num x.length = fmT (prs xss) (k + 1)) := Lib.hid (by rw [fm_next hxp h0, ← Hse.out])
          have q1 : (s ++ (⟨#[32]⟩ : ByteArray)).size ≤ 1201 := by rw [ByteArray.size_append]; omega
          have q2 : (s ++ (⟨#[32]⟩ : ByteArray) ++ label x).size ≤ 1220 := by rw [ByteArray.size_append]; omega
          have q3 : (s ++ (⟨#[32]⟩ : ByteArray) ++ label x ++ (⟨#[58]⟩ : ByteArray)).size ≤ 1221 := by rw [ByteArray.size_append]; omega
          have q4 : (s ++ (⟨#[32]⟩ : ByteArray) ++ label x ++ (⟨#[58]⟩ : ByteArray) ++ num x.length).size ≤ 1200 := by rw [Hnx.out]; omega
          have c1 : ¬ (9223372036854775807 < s.size + 1 + (label x).size) := by omega
          have c2 : ¬ (9223372036854775807 < s.size + 1 + (label x).size + 1) := by omega
          have c3 : ¬ (9223372036854775807 < s.size + 1 + (label x).size + 1 + (num x.length).size) := by omega
          clear hxp hle h0 q1 q2 q3
          go_wp2_with fail
          go_region_held3 (fun w' => Below wr.heap.size wr w' ∧ w'.cell? (ad.add k) = some (.slice PA x.length pc)) (first | (refine ⟨(Below.refl _ _).drew, ?_⟩ <;> assumption) | (refine ⟨?_, ?_⟩ <;> assumption) | go_keep) (first | ((go_at_call 15; (refine (spec_label _ x _ (Hpx.out.below ?_) Hsx.out).mono ?_; (first | exact Below.refl _ _ | exact (Below.refl _ _).drew | assumption | exact Below.drew (by assumption)); rintro e w8 ⟨rfl, hb8⟩; have hcA8 : w8.cell? (ad.add k) = some (.slice PA x.length pc) := cell_later hb8 (by first | assumption | exact hcA); have hb8' : Below wr.heap.size wr w8 := below_trans' (by first | exact Below.refl _ _ | exact (Below.refl _ _).drew | assumption | exact Below.drew (by assumption)) hb8))) | ((go_at_call 16; (refine (dec100_any x.length _ hlx).mono ?_; rintro e w9 ⟨rfl, hb9⟩; have hcA9 : w9.cell? (ad.add k) = some (.slice PA x.length pc) := cell_later hb9 (by first | assumption | exact hcA); have hb9' : Below wr.heap.size wr w9 := below_trans' (by first | exact Below.refl _ _ | exact (Below.refl _ _).drew | assumption | exact Below.drew (by assumption)) hb9))))
          all_goals
            go_wp2_with fail
            go_roundw
            case rel => exact ⟨k + 1, _, by omega, by go_num, rfl, Hnx, q4, Lib.hid (below_trans' Hb.out (by assumption))⟩
            case measure => simp [intOf]; omega
        · have hk0 : k = 0 := by omega
          subst hk0
          have hs0 : s = ⟨#[]⟩ := Hse.out
          subst hs0
          have Hnx : Hid ((⟨#[]⟩ : ByteArray) ++ label x ++ ⟨#[58]⟩ ++ num x.length = fmT (prs xss) 1) := Lib.hid (fm_first hxp).symm
          have z0 : (⟨#[]⟩ : ByteArray).size = 0 := rfl
          have hle1 := fm_size HP.out 1
          have q2 : ((⟨#[]⟩ : ByteArray) ++ label x).size ≤ 20 := by rw [ByteArray.size_append]; omega
          have q3 : ((⟨#[]⟩ : ByteArray) ++ label x ++ (⟨#[58]⟩ : ByteArray)).size ≤ 21 := by rw [ByteArray.size_append]; omega
          have q4 : ((⟨#[]⟩ : ByteArray) ++ label x ++ (⟨#[58]⟩ : ByteArray) ++ num x.length).size ≤ 1200 := by rw [Hnx.out]; omega
          simp only [Addr.add_zero'] at hcA
          have c1 : ¬ (9223372036854775807 < (label x).size) := by omega
          have c2 : ¬ (9223372036854775807 < (label x).size + 1) := by omega
          have c3 : ¬ (9223372036854775807 < (label x).size + 1 + (num x.length).size) := by omega
          clear hxp hle hle1 h0 q2 q3
          go_wp2_with fail
          go_region_held3 (fun w' => Below wr.heap.size wr w' ∧ w'.cell? ad = some (.slice PA x.length pc)) (first | (refine ⟨(Below.refl _ _).drew, ?_⟩ <;> assumption) | (refine ⟨?_, ?_⟩ <;> assumption) | go_keep) (first | ((go_at_call 15; (refine (spec_label _ x _ (Hpx.out.below ?_) Hsx.out).mono ?_; (first | exact Below.refl _ _ | exact (Below.refl _ _).drew | assumption | exact Below.drew (by assumption)); rintro e w8 ⟨rfl, hb8⟩; have hcA8 : w8.cell? ad = some (.slice PA x.length pc) := cell_later hb8 (by first | assumption | exact hcA); have hb8' : Below wr.heap.size wr w8 := below_trans' (by first | exact Below.refl _ _ | exact (Below.refl _ _).drew | assumption | exact Below.drew (by assumption)) hb8))) | ((go_at_call 16; (refine (dec100_any x.length _ hlx).mono ?_; rintro e w9 ⟨rfl, hb9⟩; have hcA9 : w9.cell? ad = some (.slice PA x.length pc) := cell_later hb9 (by first | assumption | exact hcA); have hb9' : Below wr.heap.size wr w9 := below_trans' (by first | exact Below.refl _ _ | exact (Below.refl _ _).drew | assumption | exact Below.drew (by assumption)) hb9))))
          all_goals
            go_wp2_with fail
            go_roundw
            case rel => exact ⟨0 + 1, _, by omega, by go_num, rfl, Hnx, q4, Lib.hid (below_trans' Hb.out (by assumption))⟩
            case measure => simp [intOf]; omega
      · have hk' : k = us.length := by omega
        subst hk'
        by_cases h0 : 0 < us.length
        · have hpl : 0 < (prs xss).length := by rw [prs_len, ← Hul.out]; exact h0
          have hle : us.length = (prs xss).length := by rw [prs_len, Hul.out]
          have hne := fm_ne hpl
          have Hse2 : Hid (s = fmT (prs xss) (prs xss).length) := Lib.hid (by rw [← hle]; exact Hse.out)
          rw [← Hse2.out] at hne
          have H2 := Lib.hid (dash_any s wr false hne)
          have Hyes : Hid (fmtT xss = s) := Lib.hid (by rw [fmtT_yes Htv.out (by rw [← Hul.out]; exact h0), Hse2.out])
          clear hne hle hpl
          go_wp2_with fail
          refine H2.out.mono ?_
          rintro e w' ⟨rfl, rfl⟩
          go_wp2_with fail
          go_ret
          exact ⟨ret_str (by rw [Hyes.out]), Hb.out⟩
        · have h0' : us.length = 0 := by omega
          have hs0 : s = ⟨#[]⟩ := Hse.out.trans (by rw [h0']; rfl)
          have hne : s.toList.isEmpty = true := by rw [hs0, tl_data]; rfl
          have H2 := Lib.hid (dash_any s wr true hne)
          have Hyes := Lib.hid (fmtT_nil Htv.out (by rw [← Hul.out]; exact h0'))
          clear hne hs0 h0 h0'
          go_wp2_with fail
          refine H2.out.mono ?_
          rintro e w' ⟨rfl, rfl⟩
          go_wp2_with fail
          go_ret
          exact ⟨ret_str (by rw [Hyes.out]), Hb.out⟩
end Go.Proofs.YtfhnjpjlpddpmaaDoor
