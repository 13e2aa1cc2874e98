
/- The walks of EndlessCodes and DirectForwards of the program. -/
import Derived.Test.YtefgfdehinpbaaaFw5
import Derived.Test.YtefgfdehinpbaaaFwLaw
namespace Go.Proofs.Ytefgfdehinpbaaa
open Go.RowKit
set_option linter.unusedVariables false

theorem cellF_later {W w' : World} {a : Addr} {u : Value} (hb : Below W.heap.size W w') (h : W.cell? a = some u) : w'.cell? a = some u := (hb.cell (World.block_lt_of_cell? W _ h)).trans h
theorem boxF (W : World) (x : Fwd) : (W.alloc (.cells #[.string x.1, .string x.2] 34)).cell? ⟨W.heap.size, 0, none⟩ = some (.string x.1) ∧ (W.alloc (.cells #[.string x.1, .string x.2] 34)).cell? ⟨W.heap.size, 1, none⟩ = some (.string x.2) := by
  constructor
  · rw [World.cell?_alloc_at _ _ _ _ rfl]; rfl
  · rw [World.cell?_alloc_at _ _ _ _ rfl]; rfl
theorem nilS {w w10 : World} {L : List ByteArray} (h : L = []) : OS w10 w.heap.size w10.heap.size (.slice none 0 0) L := by
  subst h; exact own_nil _ _ _ _ _

set_option maxRecDepth 100000 in
set_option maxHeartbeats 1600000 in
theorem impl_endless (v : Value) (xs : List Fwd) (w : World) (h : Ft w v xs) (hs : Szf xs) (hl : xs.length ≤ 100) :
    Calls Try.prog 13 #[v] w fun e w' => ∃ u, e = .returned u ∧ OS w' w.heap.size w'.heap.size u (endless xs) ∧ Below w.heap.size w w' := by
  have H := Lib.hid h
  have H1 := Lib.hid (impl_fv v xs w h hs)
  obtain ⟨A, c, rfl, hA, hc1, hc2⟩ := h
  unfold maxLen at hc2
  have HA := Lib.hid hA
  clear hs hA
  go_enter Try.func13, Try.ntmps13
  go_wp2_with fail
  refine H1.out.mono ?_
  rintro e w1 ⟨rfl, hb1⟩
  have Hb1 := Lib.hid hb1
  clear H1 hb1
  cases hrv : fv xs with
  | false =>
    have Hno := Lib.hid (endless_no hrv)
    clear hrv
    go_wp2_with fail
    go_ret
    exact ⟨_, rfl, nilS Hno.out, Hb1.out⟩
  | true =>
    have Hyes := Lib.hid (endless_yes hrv)
    have Ho1 : Hid (w1.ownsRow w.heap.size 9 1 (.slice none 0 0) (endT xs 0).length (strs (endT xs 0))) := Lib.hid (World.ownsRow_nil _ _ _ _)
    clear hrv
    go_wp2_with fail
    go_loopw [3, 14] (fun o i wr => ∃ (k : Nat) (u0 : Value), k ≤ xs.length ∧ i = .int .i64 k ∧ u0 = o ∧ Hid (Below w.heap.size w wr) ∧ Hid (wr.ownsRow w.heap.size 9 1 u0 (endT xs k).length (strs (endT xs k)))) (fun _ i _ => xs.length - (intOf i).toNat)
    case atStart => exact ⟨0, _, Nat.zero_le _, rfl, rfl, Hb1, Ho1⟩
    case round =>
      obtain ⟨k, u0, hk, rfl, rfl, Hb, Ho⟩ := hrel
      clear Hb1 Ho1
      by_cases hlt : k < xs.length
      · obtain ⟨ad, x, rfl, hx, hcA, hcB⟩ := (HA.out.below Hb.out).two hlt
        simp only [ftf] at hcA hcB
        have Hx := Lib.hid hx
        have Hv := Lib.hid (boxF wr x)
        have Hb2 := Lib.hid (below_step Hb.out Hb.out.size (newF wr x).1)
        have Ho2 := Lib.hid (own_below Ho.out (newF wr x).1)
        have Hr := Lib.hid (impl_res _ xs x.1 _ (H.out.below Hb2.out) hl)
        have hv1 := (boxF wr x).1
        clear hx Hb Ho
        cases hr : resolve xs x.1 with
        | some p =>
          obtain ⟨q, n⟩ := p
          have Hst := Lib.hid (endT_no Hx.out hr)
          rw [hr, reE_some] at Hr
          clear hr
          go_wp2_with fail
          refine Hr.out.mono ?_
          rintro e w2 ⟨rfl, hb2⟩
          have Hb3 := Lib.hid (below_trans' Hb2.out hb2)
          have Ho3 := Lib.hid (own_below Ho2.out hb2)
          clear hb2 Hb2 Ho2 Hr hcA hcB hv1
          go_wp2_with fail
          go_roundw
          case rel => exact ⟨k + 1, _, by omega, by go_num, rfl, Hb3, by rw [Hst.out]; exact Ho3⟩
          case measure => simp [intOf]; omega
        | none =>
          have Hst := Lib.hid (endT_yes Hx.out hr)
          rw [hr, reE_none] at Hr
          clear hr
          go_wp2_with fail
          refine Hr.out.mono ?_
          rintro e w2 ⟨rfl, hb2⟩
          have Hb3 := Lib.hid (below_trans' Hb2.out hb2)
          have Ho3 := Lib.hid (own_below Ho2.out hb2)
          have hv2 := cellF_later hb2 hv1
          obtain ⟨C, cp, rfl, _, _, _, _⟩ := own_form Ho3.out
          have hll := endT_len xs k
          clear hb2 Hb2 Ho2 Hr hcA hcB hv1
          go_wp2_with (at_builtin; refine wpList_append_rd rfl (.tmp 28) (.tmp 31) 29 rfl str_elem (base := w.heap.size) (.slice C (endT xs k).length cp) (endT xs k).length (strs (endT xs k)) rfl (own_below (Ho3).out (newS w2 x.1).1) (some ⟨(w2).heap.size, 0, none⟩) 1 1 (strs [x.1]) rfl rfl (newS w2 x.1).2 (strs_oneCell _) (by unfold maxLen; omega) (by omega) (Nat.le_trans (Hb3).out.size (newS w2 x.1).1.size) ?_; intro v6 w6 hown6 hg6 hm6)
          have Hb6 := Lib.hid ((below_step Hb3.out Hb3.out.size (newS w2 x.1).1).grown hg6 (Nat.le_trans Hb3.out.size (newS w2 x.1).1.size) (fun g e => (Ho3.out.lt g e).1))
          have Ho6 : Hid (w6.ownsRow w.heap.size 9 1 v6 (endT xs (k + 1)).length (strs (endT xs (k + 1)))) := Lib.hid (by rw [Hst.out, len_snoc, strs_append]; exact hown6)
          clear hown6 hg6 hm6
          go_roundw
          case rel => exact ⟨k + 1, _, by omega, by go_num, rfl, Hb6, Ho6⟩
          case measure => simp [intOf]; omega
      · have hk' : k = xs.length := by omega
        subst hk'
        have Hsr := Lib.hid (sort_any _ (endT xs xs.length) w.heap.size wr Ho.out (by have := endT_len xs xs.length; omega))
        have Hlt := Lib.hid fun g e => (Ho.out.lt g e).1
        go_wp2_with fail
        refine Hsr.out.mono ?_
        rintro e w2 ⟨rfl, ho2, hg2⟩
        have Ho2 := Lib.hid ho2
        have Hb2 := Lib.hid (Hb.out.grown hg2 Hb.out.size Hlt.out)
        clear ho2 hg2 Hsr
        go_wp2_with fail
        go_ret
        exact ⟨_, rfl, by rw [Hyes.out]; exact own_of (by have := Ho2.out; rw [← srt_length] at this; exact this), Hb2.out⟩
set_option maxRecDepth 100000 in
set_option maxHeartbeats 1600000 in
theorem impl_direct (v : Value) (xs : List Fwd) (w : World) (h : Ft w v xs) (hs : Szf xs) (hl : xs.length ≤ 100) :
    Calls Try.prog 19 #[v] w fun e w' => ∃ u, e = .returned u ∧ OF w' w.heap.size w'.heap.size u (direct xs) ∧ Below w.heap.size w w' := by
  have H := Lib.hid h
  have H1 := Lib.hid (impl_fv v xs w h hs)
  obtain ⟨A, c, rfl, hA, hc1, hc2⟩ := h
  unfold maxLen at hc2
  have HA := Lib.hid hA
  clear hs hA
  go_enter Try.func19, Try.ntmps19
  go_wp2_with fail
  refine H1.out.mono ?_
  rintro e w1 ⟨rfl, hb1⟩
  have Hb1 := Lib.hid hb1
  clear H1 hb1
  cases hrv : fv xs with
  | false =>
    have Hno := Lib.hid (direct_no hrv)
    clear hrv
    go_wp2_with fail
    go_ret
    exact ⟨_, rfl, nilF Hno.out, Hb1.out⟩
  | true =>
    have Hyes := Lib.hid hrv
    have Ho1 : Hid (w1.ownsRow w.heap.size 34 2 (.slice none 0 0) (dirL xs ((froms xs).take 0)).length (fcs (dirL xs ((froms xs).take 0)))) := Lib.hid (World.ownsRow_nil _ _ _ _)
    clear hrv
    go_wp2_with fail
    go_loopw [3, 14] (fun o i wr => ∃ (k : Nat) (u0 : Value), k ≤ xs.length ∧ i = .int .i64 k ∧ u0 = o ∧ Hid (Below w.heap.size w wr) ∧ Hid (wr.ownsRow w.heap.size 34 2 u0 (dirL xs ((froms xs).take k)).length (fcs (dirL xs ((froms xs).take k))))) (fun _ i _ => xs.length - (intOf i).toNat)
    case atStart => exact ⟨0, _, Nat.zero_le _, rfl, rfl, Hb1, Ho1⟩
    case round =>
      obtain ⟨k, u0, hk, rfl, rfl, Hb, Ho⟩ := hrel
      clear Hb1 Ho1
      by_cases hlt : k < xs.length
      · obtain ⟨ad, x, rfl, hx, hcA, hcB⟩ := (HA.out.below Hb.out).two hlt
        simp only [ftf] at hcA hcB
        have Hx := Lib.hid hx
        have Hv := Lib.hid (boxF wr x)
        have Hb2 := Lib.hid (below_step Hb.out Hb.out.size (newF wr x).1)
        have Ho2 := Lib.hid (own_below Ho.out (newF wr x).1)
        have Hr := Lib.hid (impl_res _ xs x.1 _ (H.out.below Hb2.out) hl)
        have hv1 := (boxF wr x).1
        clear hx Hb Ho
        cases hr : resolve xs x.1 with
        | some p =>
          obtain ⟨q, n⟩ := p
          have Hst := Lib.hid (dirL_yes (froms_get Hx.out) hr)
          rw [hr, reE_some] at Hr
          clear hr
          go_wp2_with fail
          refine Hr.out.mono ?_
          rintro e w2 ⟨rfl, hb2⟩
          have Hb3 := Lib.hid (below_trans' Hb2.out hb2)
          have Ho3 := Lib.hid (own_below Ho2.out hb2)
          have hv2 := cellF_later hb2 hv1
          obtain ⟨C, cp, rfl, _, _, _, _⟩ := own_form Ho3.out
          have hll := dirL_len xs ((froms xs).take k)
          rw [List.length_take, froms_len] at hll
          clear hb2 Hb2 Ho2 Hr hcA hcB hv1
          go_wp2_with (at_builtin; refine wpList_append_rd rfl (.tmp 27) (.tmp 32) 23 rfl fwd_elem (base := w.heap.size) (.slice C (dirL xs ((froms xs).take k)).length cp) (dirL xs ((froms xs).take k)).length (fcs (dirL xs ((froms xs).take k))) rfl (own_below (Ho3).out (newF w2 (x.1, q)).1) (some ⟨(w2).heap.size, 0, none⟩) 1 1 (fcs [(x.1, q)]) rfl rfl (newF w2 (x.1, q)).2 (fcs_oneCell _) (by unfold maxLen; omega) (by omega) (Nat.le_trans (Hb3).out.size (newF w2 (x.1, q)).1.size) ?_; intro v6 w6 hown6 hg6 hm6)
          have Hb6 := Lib.hid ((below_step Hb3.out Hb3.out.size (newF w2 (x.1, q)).1).grown hg6 (Nat.le_trans Hb3.out.size (newF w2 (x.1, q)).1.size) (fun g e => (Ho3.out.lt g e).1))
          have Ho6 : Hid (w6.ownsRow w.heap.size 34 2 v6 (dirL xs ((froms xs).take (k + 1))).length (fcs (dirL xs ((froms xs).take (k + 1))))) := Lib.hid (by rw [Hst.out, len_snoc, fcs_snoc]; exact hown6)
          clear hown6 hg6 hm6
          go_roundw
          case rel => exact ⟨k + 1, _, by omega, by go_num, rfl, Hb6, Ho6⟩
          case measure => simp [intOf]; omega
        | none =>
          have Hst := Lib.hid (dirL_no (froms_get Hx.out) hr)
          rw [hr, reE_none] at Hr
          clear hr
          go_wp2_with fail
          refine Hr.out.mono ?_
          rintro e w2 ⟨rfl, hb2⟩
          have Hb3 := Lib.hid (below_trans' Hb2.out hb2)
          have Ho3 := Lib.hid (own_below Ho2.out hb2)
          clear hb2 Hb2 Ho2 Hr hcA hcB hv1
          go_wp2_with fail
          go_roundw
          case rel => exact ⟨k + 1, _, by omega, by go_num, rfl, Hb3, by rw [Hst.out]; exact Ho3⟩
          case measure => simp [intOf]; omega
      · have hk' : k = xs.length := by omega
        subst hk'
        have ef : (froms xs).take xs.length = froms xs := List.take_of_length_le (by rw [froms_len]; exact Nat.le_refl _)
        rw [ef] at Ho
        have hll := dirL_len xs (froms xs)
        rw [froms_len] at hll
        have Hsr := Lib.hid (sortF_any _ (dirL xs (froms xs)) w.heap.size wr Ho.out (by omega))
        have Hlt := Lib.hid fun g e => (Ho.out.lt g e).1
        clear ef
        go_wp2_with fail
        refine Hsr.out.mono ?_
        rintro e w2 ⟨rfl, ys, hp, hpw, ho2, hg2⟩
        have Hys := Lib.hid (direct_uniq Hyes.out hp hpw)
        have Ho2 : Hid (w2.ownsRow w.heap.size 34 2 u0 ys.length (fcs ys)) := Lib.hid (by rw [hp.length_eq]; exact ho2)
        have Hb2 := Lib.hid (Hb.out.grown hg2 Hb.out.size Hlt.out)
        clear ho2 hg2 Hsr hp hpw
        go_wp2_with fail
        go_ret
        exact ⟨_, rfl, by rw [← Hys.out]; exact own_of Ho2.out, Hb2.out⟩
end Go.Proofs.Ytefgfdehinpbaaa
