
/- The walks of the reference's DirectForwards and of SourcesOf. -/
import Derived.Test.YtefgfdehinpbaaaFw6
namespace Go.Proofs.Ytefgfdehinpbaaa
open Go.RowKit
set_option linter.unusedVariables false

theorem apart_rowF {v u : Value} (h : Apart v u) : v.ownBlock = none ∨ v.ownBlock ≠ u.ownBlock := by
  cases hv : v.ownBlock with
  | none => exact .inl rfl
  | some g => right; intro e; exact h g hv e.symm
theorem str_ne_fwd : (9 : TypeId) ≠ 34 := by decide
/-- The codes put in so far. -/
def CodesTo (xs : List Fwd) (k : Nat) (b : Bool) (cs : List ByteArray) : Prop := (b = true ∧ cs = srt ((froms xs).take k)) ∨ (b = false ∧ k = 0 ∧ cs = [])
theorem codesTo_zero (xs : List Fwd) (b : Bool) : CodesTo xs 0 b [] := by
  cases b with
  | true => exact .inl ⟨rfl, srt_nil.symm⟩
  | false => exact .inr ⟨rfl, rfl, rfl⟩
theorem codesTo_step {xs : List Fwd} {k : Nat} {cs : List ByteArray} {x : Fwd} (h : CodesTo xs k true cs) (hx : xs[k]? = some x) : CodesTo xs (k + 1) true (insB cs x.1) := by
  rcases h with ⟨_, rfl⟩ | ⟨h, _⟩
  · exact .inl ⟨rfl, by rw [insB_srt, take_snoc (froms_get hx)]⟩
  · cases h
theorem codesTo_len {xs : List Fwd} {k : Nat} {b : Bool} {cs : List ByteArray} (h : CodesTo xs k b cs) : cs.length ≤ xs.length := by
  rcases h with ⟨_, rfl⟩ | ⟨_, _, rfl⟩
  · rw [srt_length, List.length_take, froms_len]; omega
  · simp
theorem codesTo_end {xs : List Fwd} {cs : List ByteArray} (h : CodesTo xs xs.length (fv xs) cs) : dirL xs cs = direct xs := by
  rcases h with ⟨hb, rfl⟩ | ⟨hb, _, rfl⟩
  · rw [direct_yes hb, List.take_of_length_le (by rw [froms_len]; exact Nat.le_refl _)]
  · rw [direct_no hb]; rfl
theorem codesTo_false {xs : List Fwd} {k : Nat} {cs : List ByteArray} (hb : fv xs = false) (h : CodesTo xs k false cs) : dirL xs cs = direct xs := by
  rcases h with ⟨h, _⟩ | ⟨_, _, rfl⟩
  · cases h
  · rw [direct_no hb]; rfl

set_option maxRecDepth 100000 in
set_option maxHeartbeats 3200000 in
theorem spec_direct (v : Value) (xs : List Fwd) (w : World) (h : Ft w v xs) (hs : Szf xs) (hl : xs.length ≤ 100) :
    Calls Try.prog 23 #[v] w fun e w' => ∃ u, e = .returned u ∧ OF w' w.heap.size w'.heap.size u (direct xs) ∧ Below w.heap.size w w' := by
  have H := Lib.hid h
  have Hs := Lib.hid hs
  have H1 := Lib.hid fun (W : World) (hb : Below w.heap.size w W) => spec_fv v xs W (h.below hb) hs
  obtain ⟨A, c, rfl, hA, hc1, hc2⟩ := h
  unfold maxLen at hc2
  have HA := Lib.hid hA
  obtain ⟨b, hb⟩ : ∃ b, b = fv xs := ⟨_, rfl⟩
  have Hfv := Lib.hid hb
  rw [← hb] at H1
  have h0 : Below w.heap.size w (w.alloc (.cells #[] 9)) := (Below.refl _ _).alloc (Nat.le_refl _) _
  have h1 := h0.alloc h0.size (.cells #[] 34)
  have Hc0 : Hid (((w.alloc (.cells #[] 9)).alloc (.cells #[] 34)).ownsRow w.heap.size 9 1 (.slice (some ⟨w.heap.size, 0, none⟩) 0 0) ([] : List ByteArray).length (strs [])) := Lib.hid (own_below (litS0 w).row ((Below.refl _ _).alloc (Nat.le_refl _) _))
  have ho0 := own_base (litF0 (w.alloc (.cells #[] 9))).row h0.size
  rw [World.size_alloc] at ho0
  have Ho0 : Hid (((w.alloc (.cells #[] 9)).alloc (.cells #[] 34)).ownsRow w.heap.size 34 2 (.slice (some ⟨w.heap.size + 1, 0, none⟩) 0 0) (dirL xs ([] : List ByteArray)).length (fcs (dirL xs []))) := Lib.hid ho0
  have Hb0 := Lib.hid h1
  clear hs hA hb h0 h1 ho0
  go_enter Try.func23, Try.ntmps23
  go_wp2_with fail
  go_loopw [3, 5] (fun o i wr => ∃ (k : Nat) (u0 : Value) (cs : List ByteArray), k ≤ xs.length ∧ i = .int .i64 k ∧ u0 = o ∧ Hid (Below w.heap.size w wr) ∧ Hid (wr.ownsRow w.heap.size 9 1 u0 cs.length (strs cs)) ∧ Hid (wr.ownsRow w.heap.size 34 2 (.slice (some ⟨w.heap.size + 1, 0, none⟩) 0 0) (dirL xs ([] : List ByteArray)).length (fcs (dirL xs []))) ∧ Hid (CodesTo xs k b cs)) (fun _ i _ => xs.length - (intOf i).toNat)
  case atStart => exact ⟨0, _, [], Nat.zero_le _, rfl, rfl, Hb0, Hc0, Ho0, Lib.hid (codesTo_zero xs b)⟩
  case round =>
    obtain ⟨k, u0, cs, hk, rfl, rfl, Hb, Hc, Ho, Ht⟩ := hrel
    clear Hb0 Hc0 Ho0
    by_cases hlt : k < xs.length
    · have H2 := Lib.hid (H1.out wr Hb.out)
      cases b with
      | false =>
        have hcl := codesTo_len Ht.out
        have Hd := Lib.hid (codesTo_false Hfv.out.symm Ht.out)
        obtain ⟨C0, cp0, rfl, _, _, _, _⟩ := own_form Hc.out
        go_wp2_with fail
        refine H2.out.mono ?_
        rintro e w2 ⟨rfl, hb2⟩
        have Hb2 := Lib.hid (below_trans' Hb.out hb2)
        have Ho2 := Lib.hid (own_below Ho.out hb2)
        have Hc2 := Lib.hid (own_below Hc.out hb2)
        clear hb2 H2 Hb Hc Ho Ht
        go_wp2_with fail
        go_loopw [4, 6] (fun o i wr => ∃ (k : Nat) (u1 : Value), k ≤ (cs).length ∧ i = .int .i64 k ∧ u1 = o ∧ Hid (Below w.heap.size w wr) ∧ Hid (wr.ownsRow w.heap.size 34 2 u1 (dirL xs ((cs).take k)).length (fcs (dirL xs ((cs).take k)))) ∧ Hid (wr.ownsRow w.heap.size 9 1 (.slice C0 cs.length cp0) (cs).length (strs cs))) (fun _ i _ => (cs).length - (intOf i).toNat)
        case atStart => exact ⟨0, _, Nat.zero_le _, rfl, rfl, Hb2, Ho2, Hc2⟩
        case round =>
          obtain ⟨j, u1, hj, rfl, rfl, HB, HO, HC⟩ := hrel
          clear Hb2 Ho2 Hc2
          by_cases hjl : j < (cs).length
          · obtain ⟨A5, c5, e5, hn5, hm5, hr5, _⟩ := own_form HC.out
            injection e5 with e51 e52 e53
            subst e51 e53
            obtain ⟨ad5, c, rfl, hx, hcx⟩ := hr5.str hjl
            have Hx := Lib.hid hx
            have Hr := Lib.hid (spec_res _ xs c wr (H.out.below HB.out) hl)
            clear hx hr5
            cases hr : resolve xs c with
            | none =>
              have Hst := Lib.hid (dirL_no Hx.out hr)
              rw [hr, reE_none] at Hr
              clear hr
              go_wp2_with fail
              refine Hr.out.mono ?_
              rintro e w2 ⟨rfl, hb2⟩
              have HB3 := Lib.hid (below_trans' HB.out hb2)
              have HO3 := Lib.hid (own_below HO.out hb2)
              have HC3 := Lib.hid (own_below HC.out hb2)
              clear hb2 HB HO HC Hr hcx
              go_wp2_with fail
              go_roundw
              case rel => exact ⟨j + 1, _, by omega, by go_num, rfl, HB3, by rw [Hst.out]; exact HO3, HC3⟩
              case measure => simp [intOf]; omega
            | some p =>
              obtain ⟨q, n⟩ := p
              have Hst := Lib.hid (dirL_yes Hx.out hr)
              rw [hr, reE_some] at Hr
              clear hr
              go_wp2_with fail
              refine Hr.out.mono ?_
              rintro e w2 ⟨rfl, hb2⟩
              have HB3 := Lib.hid (below_trans' HB.out hb2)
              have HO3 := Lib.hid (own_below HO.out hb2)
              have HC3 := Lib.hid (own_below HC.out hb2)
              have hcx2 := cellF_later hb2 hcx
              obtain ⟨C, cp, rfl, _, _, _, _⟩ := own_form HO3.out
              have hll := dirL_len xs ((cs).take j)
              rw [List.length_take] at hll
              clear hb2 HB HO HC Hr hcx
              go_wp2_with (at_builtin; refine wpList_append_rd rfl (.tmp 46) (.tmp 53) 23 rfl fwd_elem (base := w.heap.size) (.slice C (dirL xs ((cs).take j)).length cp) (dirL xs ((cs).take j)).length (fcs (dirL xs ((cs).take j))) rfl (own_below (HO3).out (newF w2 (c, q)).1) (some ⟨(w2).heap.size, 0, none⟩) 1 1 (fcs [(c, q)]) rfl rfl (newF w2 (c, q)).2 (fcs_oneCell _) (by unfold maxLen; omega) (by omega) (Nat.le_trans (HB3).out.size (newF w2 (c, q)).1.size) ?_; intro v6 w6 hown6 hg6 hm6)
              have HB6 := Lib.hid ((below_step HB3.out HB3.out.size (newF w2 (c, q)).1).grown hg6 (Nat.le_trans HB3.out.size (newF w2 (c, q)).1.size) (fun g e => (HO3.out.lt g e).1))
              have HO6 : Hid (w6.ownsRow w.heap.size 34 2 v6 (dirL xs ((cs).take (j + 1))).length (fcs (dirL xs ((cs).take (j + 1))))) := Lib.hid (by rw [Hst.out, len_snoc, fcs_snoc]; exact hown6)
              have HC6 := Lib.hid ((own_below HC3.out (newF w2 (c, q)).1).kept hg6 (apart_rowF (own_apart_type HC3.out HO3.out str_ne_fwd)))
              clear hown6 hg6 hm6
              go_roundw
              case rel => exact ⟨j + 1, _, by omega, by go_num, rfl, HB6, HO6, HC6⟩
              case measure => simp [intOf]; omega
          · have hj' : j = (cs).length := by omega
            subst hj'
            have HO2 := Lib.hid HO.out
            rw [List.take_length, (Hd).out] at HO2
            go_wp2_with fail
            go_ret
            exact ⟨_, rfl, own_of HO2.out, HB.out⟩
      | true =>
        go_wp2_with fail
        refine H2.out.mono ?_
        rintro e w2 ⟨rfl, hb2⟩
        have Hb2 := Lib.hid (below_trans' Hb.out hb2)
        have Ho2 := Lib.hid (own_below Ho.out hb2)
        have Hc2 := Lib.hid (own_below Hc.out hb2)
        obtain ⟨ad, x, rfl, hx, hcA, hcB⟩ := (HA.out.below Hb2.out).two hlt
        simp only [ftf] at hcA hcB
        have Ht2 := Lib.hid (codesTo_step Ht.out hx)
        have hcl := codesTo_len Ht.out
        have Hi := Lib.hid (ins_any u0 cs x.1 w2 (sl_own Hc2.out) (by omega))
        clear hb2 H2 Hb Hc Ho Ht hx
        go_wp2_with fail
        refine Hi.out.mono ?_
        rintro e w3 ⟨u, rfl, hu, hb3⟩
        have Hb3 := Lib.hid (below_trans' Hb2.out hb3)
        have Ho3 := Lib.hid (own_below Ho2.out hb3)
        have Hc3 := Lib.hid (own_base hu.row Hb2.out.size)
        clear hu hb3 Hi Hb2 Ho2 Hc2 hcA hcB
        go_wp2_with fail
        go_roundw
        case rel => exact ⟨k + 1, _, _, by omega, by go_num, rfl, Hb3, Hc3, Ho3, Ht2⟩
        case measure => simp [intOf]; omega
    · have hk' : k = xs.length := by omega
      subst hk'
      have hcl := codesTo_len Ht.out
      have Hd : Hid (dirL xs cs = direct xs) := Lib.hid (codesTo_end (by have := Ht.out; rw [Hfv.out] at this; exact this))
      obtain ⟨C0, cp0, rfl, _, _, _, _⟩ := own_form Hc.out
      clear Ht
      go_wp2_with fail
      go_loopw [4, 6] (fun o i wr => ∃ (k : Nat) (u1 : Value), k ≤ (cs).length ∧ i = .int .i64 k ∧ u1 = o ∧ Hid (Below w.heap.size w wr) ∧ Hid (wr.ownsRow w.heap.size 34 2 u1 (dirL xs ((cs).take k)).length (fcs (dirL xs ((cs).take k)))) ∧ Hid (wr.ownsRow w.heap.size 9 1 (.slice C0 cs.length cp0) (cs).length (strs cs))) (fun _ i _ => (cs).length - (intOf i).toNat)
      case atStart => exact ⟨0, _, Nat.zero_le _, rfl, rfl, Hb, Ho, Hc⟩
      case round =>
        obtain ⟨j, u1, hj, rfl, rfl, HB, HO, HC⟩ := hrel
        clear Hb Ho Hc
        by_cases hjl : j < (cs).length
        · obtain ⟨A5, c5, e5, hn5, hm5, hr5, _⟩ := own_form HC.out
          injection e5 with e51 e52 e53
          subst e51 e53
          obtain ⟨ad5, c, rfl, hx, hcx⟩ := hr5.str hjl
          have Hx := Lib.hid hx
          have Hr := Lib.hid (spec_res _ xs c wr (H.out.below HB.out) hl)
          clear hx hr5
          cases hr : resolve xs c with
          | none =>
            have Hst := Lib.hid (dirL_no Hx.out hr)
            rw [hr, reE_none] at Hr
            clear hr
            go_wp2_with fail
            refine Hr.out.mono ?_
            rintro e w2 ⟨rfl, hb2⟩
            have HB3 := Lib.hid (below_trans' HB.out hb2)
            have HO3 := Lib.hid (own_below HO.out hb2)
            have HC3 := Lib.hid (own_below HC.out hb2)
            clear hb2 HB HO HC Hr hcx
            go_wp2_with fail
            go_roundw
            case rel => exact ⟨j + 1, _, by omega, by go_num, rfl, HB3, by rw [Hst.out]; exact HO3, HC3⟩
            case measure => simp [intOf]; omega
          | some p =>
            obtain ⟨q, n⟩ := p
            have Hst := Lib.hid (dirL_yes Hx.out hr)
            rw [hr, reE_some] at Hr
            clear hr
            go_wp2_with fail
            refine Hr.out.mono ?_
            rintro e w2 ⟨rfl, hb2⟩
            have HB3 := Lib.hid (below_trans' HB.out hb2)
            have HO3 := Lib.hid (own_below HO.out hb2)
            have HC3 := Lib.hid (own_below HC.out hb2)
            have hcx2 := cellF_later hb2 hcx
            obtain ⟨C, cp, rfl, _, _, _, _⟩ := own_form HO3.out
            have hll := dirL_len xs ((cs).take j)
            rw [List.length_take] at hll
            clear hb2 HB HO HC Hr hcx
            go_wp2_with (at_builtin; refine wpList_append_rd rfl (.tmp 46) (.tmp 53) 23 rfl fwd_elem (base := w.heap.size) (.slice C (dirL xs ((cs).take j)).length cp) (dirL xs ((cs).take j)).length (fcs (dirL xs ((cs).take j))) rfl (own_below (HO3).out (newF w2 (c, q)).1) (some ⟨(w2).heap.size, 0, none⟩) 1 1 (fcs [(c, q)]) rfl rfl (newF w2 (c, q)).2 (fcs_oneCell _) (by unfold maxLen; omega) (by omega) (Nat.le_trans (HB3).out.size (newF w2 (c, q)).1.size) ?_; intro v6 w6 hown6 hg6 hm6)
            have HB6 := Lib.hid ((below_step HB3.out HB3.out.size (newF w2 (c, q)).1).grown hg6 (Nat.le_trans HB3.out.size (newF w2 (c, q)).1.size) (fun g e => (HO3.out.lt g e).1))
            have HO6 : Hid (w6.ownsRow w.heap.size 34 2 v6 (dirL xs ((cs).take (j + 1))).length (fcs (dirL xs ((cs).take (j + 1))))) := Lib.hid (by rw [Hst.out, len_snoc, fcs_snoc]; exact hown6)
            have HC6 := Lib.hid ((own_below HC3.out (newF w2 (c, q)).1).kept hg6 (apart_rowF (own_apart_type HC3.out HO3.out str_ne_fwd)))
            clear hown6 hg6 hm6
            go_roundw
            case rel => exact ⟨j + 1, _, by omega, by go_num, rfl, HB6, HO6, HC6⟩
            case measure => simp [intOf]; omega
        · have hj' : j = (cs).length := by omega
          subst hj'
          have HO2 := Lib.hid HO.out
          rw [List.take_length, (Hd).out] at HO2
          go_wp2_with fail
          go_ret
          exact ⟨_, rfl, own_of HO2.out, HB.out⟩
end Go.Proofs.Ytefgfdehinpbaaa
