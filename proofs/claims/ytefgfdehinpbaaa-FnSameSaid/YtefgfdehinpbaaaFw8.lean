
/- The walks of SourcesOf. -/
import Derived.Test.YtefgfdehinpbaaaFw7
namespace Go.Proofs.Ytefgfdehinpbaaa
open Go.RowKit
set_option linter.unusedVariables false

set_option maxRecDepth 100000 in
set_option maxHeartbeats 1600000 in
theorem impl_sources (v : Value) (xs : List Fwd) (s : ByteArray) (w : World) (h : Ft w v xs) (hs : Szf xs) (hl : xs.length ≤ 100) :
    Calls Try.prog 31 #[v, .string s] w fun e w' => ∃ u, e = .returned u ∧ OS w' w.heap.size w'.heap.size u (sources xs s) ∧ Below w.heap.size w w' := by
  have H1 := Lib.hid (impl_direct v xs w h hs hl)
  have hdl := direct_len xs
  clear hs h
  go_enter Try.func31, Try.ntmps31
  go_wp2_with fail
  refine H1.out.mono ?_
  rintro e w1 ⟨u, rfl, hu, hb1⟩
  have Hb1 := Lib.hid hb1
  have Hfull := Lib.hid (srcT_full xs s)
  obtain ⟨A, c, rfl, hA, hc1, hc2⟩ := hu.sl
  unfold maxLen at hc2
  have HA := Lib.hid hA
  clear H1 hb1 hu hA
  generalize direct xs = ds at *
  have Ho1 : Hid (w1.ownsRow w.heap.size 9 1 (.slice none 0 0) (srcT ds s 0).length (strs (srcT ds s 0))) := Lib.hid (World.ownsRow_nil _ _ _ _)
  go_wp2_with fail
  go_loopw [5, 11] (fun o i wr => ∃ (k : Nat) (u0 : Value), k ≤ ds.length ∧ i = .int .i64 k ∧ u0 = o ∧ Hid (Below w1.heap.size w1 wr) ∧ Hid (wr.ownsRow w1.heap.size 9 1 u0 (srcT ds s k).length (strs (srcT ds s k)))) (fun _ i _ => ds.length - (intOf i).toNat)
  case atStart => exact ⟨0, _, Nat.zero_le _, rfl, rfl, Lib.hid (Below.refl _ _), Lib.hid (World.ownsRow_nil _ _ _ _)⟩
  case round =>
    obtain ⟨k, u0, hk, rfl, rfl, Hb, Ho⟩ := hrel
    clear Ho1
    by_cases hlt : k < ds.length
    · obtain ⟨ad, x, rfl, hx, hcA, hcB⟩ := (HA.out.below Hb.out).two hlt
      simp only [ftf] at hcA hcB
      have Hx := Lib.hid hx
      have Hb2 := Lib.hid (below_step Hb.out Hb.out.size (newF wr x).1)
      have Ho2 := Lib.hid (own_below Ho.out (newF wr x).1)
      clear hx Ho Hb
      obtain ⟨hv1, hv2⟩ := boxF wr x
      have hsz : (wr.alloc (.cells #[.string x.1, .string x.2] 34)).heap.size = wr.heap.size + 1 := by rw [World.size_alloc]
      by_cases hxc : x.2 = s
      · have e1 := str_same hxc
        have Hst := Lib.hid (srcT_yes Hx.out hxc)
        obtain ⟨C, cp, rfl, _, _, _, _⟩ := own_form Ho2.out
        have hll := srcT_len ds s k
        obtain ⟨wa, hwa⟩ : ∃ wa, wa = wr.alloc (.cells #[.string x.1, .string x.2] 34) := ⟨_, rfl⟩
        rw [← hwa] at Hb2 Ho2 hv1 hv2 hsz
        have hnn := newS wa x.1
        have HNb := Lib.hid hnn.1
        have HNr := hnn.2
        rw [hsz] at HNr
        have HNr := Lib.hid HNr
        have Hb3 := Lib.hid (below_step Hb2.out Hb2.out.size HNb.out)
        have Ho3 := Lib.hid (own_below Ho2.out HNb.out)
        clear hxc hnn hsz
        go_wp2_with (at_builtin; simp only [← hwa]; refine wpList_append_rd rfl (.tmp 19) (.tmp 22) 29 rfl str_elem (base := w1.heap.size) (.slice C (srcT ds s k).length cp) (srcT ds s k).length (strs (srcT ds s k)) rfl Ho3.out (some ⟨wr.heap.size + 1, 0, none⟩) 1 1 (strs [x.1]) rfl rfl HNr.out (strs_oneCell _) (by unfold maxLen; omega) (by omega) Hb3.out.size ?_; intro v6 w6 hown6 hg6 hm6)
        have Hb6 := Lib.hid (Hb3.out.grown hg6 Hb3.out.size (fun g e => (Ho3.out.lt g e).1))
        have Ho6 : Hid (w6.ownsRow w1.heap.size 9 1 v6 (srcT ds s (k + 1)).length (strs (srcT ds s (k + 1)))) := Lib.hid (by rw [Hst.out, len_snoc, strs_append]; exact hown6)
        clear hown6 hg6 hm6
        go_roundw
        case rel => exact ⟨k + 1, _, by omega, by go_num, rfl, Hb6, Ho6⟩
        case measure => simp [intOf]; omega
      · have e1 := str_diff hxc
        have Hst := Lib.hid (srcT_no Hx.out hxc)
        clear hxc hsz
        go_wp2_with fail
        go_roundw
        case rel => exact ⟨k + 1, _, by omega, by go_num, rfl, Hb2, by rw [Hst.out]; exact Ho2⟩
        case measure => simp [intOf]; omega
    · have hk' : k = ds.length := by omega
      subst hk'
      have Ho2 := Lib.hid Ho.out
      rw [Hfull.out] at Ho2
      go_wp2_with fail
      go_ret
      exact ⟨_, rfl, (own_of Ho2.out).wide Hb1.out.size (Nat.le_refl _), below_trans' Hb1.out Hb.out⟩

/-- The sources put in so far. -/
def SrcTo (xs : List Fwd) (c : ByteArray) (k : Nat) (b : Bool) (cs : List ByteArray) : Prop := (b = true ∧ cs = srt (souT xs c k)) ∨ (b = false ∧ k = 0 ∧ cs = [])
theorem srcTo_zero (xs : List Fwd) (c : ByteArray) (b : Bool) : SrcTo xs c 0 b [] := by
  cases b with
  | true => exact .inl ⟨rfl, srt_nil.symm⟩
  | false => exact .inr ⟨rfl, rfl, rfl⟩
theorem srcTo_yes {xs : List Fwd} {c : ByteArray} {k : Nat} {cs : List ByteArray} {x : Fwd} {p : ByteArray × Nat} (h : SrcTo xs c k true cs) (hx : xs[k]? = some x) (hr : resolve xs x.1 = some p) (hc : p.1 = c) : SrcTo xs c (k + 1) true (insB cs x.1) := by
  rcases h with ⟨_, rfl⟩ | ⟨h, _⟩
  · exact .inl ⟨rfl, by rw [insB_srt, souT_yes hx hr hc]⟩
  · cases h
theorem srcTo_no {xs : List Fwd} {c : ByteArray} {k : Nat} {cs : List ByteArray} {x : Fwd} {p : ByteArray × Nat} (h : SrcTo xs c k true cs) (hx : xs[k]? = some x) (hr : resolve xs x.1 = some p) (hc : p.1 ≠ c) : SrcTo xs c (k + 1) true cs := by
  rcases h with ⟨_, rfl⟩ | ⟨h, _⟩
  · exact .inl ⟨rfl, by rw [souT_no hx hr hc]⟩
  · cases h
theorem srcTo_none {xs : List Fwd} {c : ByteArray} {k : Nat} {cs : List ByteArray} {x : Fwd} (h : SrcTo xs c k true cs) (hx : xs[k]? = some x) (hr : resolve xs x.1 = none) : SrcTo xs c (k + 1) true cs := by
  rcases h with ⟨_, rfl⟩ | ⟨h, _⟩
  · exact .inl ⟨rfl, by rw [souT_none hx hr]⟩
  · cases h
theorem srcTo_len {xs : List Fwd} {c : ByteArray} {k : Nat} {b : Bool} {cs : List ByteArray} (h : SrcTo xs c k b cs) : cs.length ≤ xs.length := by
  rcases h with ⟨_, rfl⟩ | ⟨_, _, rfl⟩
  · rw [srt_length]; exact souT_len xs c k
  · simp
theorem srcTo_end {xs : List Fwd} {c : ByteArray} {cs : List ByteArray} (h : SrcTo xs c xs.length (fv xs) cs) : cs = sources xs c := by
  rcases h with ⟨hb, rfl⟩ | ⟨hb, _, rfl⟩
  · rw [souT_srt hb]
  · rw [sources_no hb]
theorem srcTo_false {xs : List Fwd} {c : ByteArray} {k : Nat} {cs : List ByteArray} (hb : fv xs = false) (h : SrcTo xs c k false cs) : cs = sources xs c := by
  rcases h with ⟨h, _⟩ | ⟨_, _, rfl⟩
  · cases h
  · rw [sources_no hb]

set_option maxRecDepth 100000 in
set_option maxHeartbeats 3200000 in
theorem spec_sources (v : Value) (xs : List Fwd) (s : ByteArray) (w : World) (h : Ft w v xs) (hs : Szf xs) (hl : xs.length ≤ 100) :
    Calls Try.prog 32 #[v, .string s] w fun e w' => ∃ u, e = .returned u ∧ OS w' w.heap.size w'.heap.size u (sources xs s) ∧ Below w.heap.size w w' := by
  have H := Lib.hid h
  have H1 := Lib.hid fun (W : World) (hb : Below w.heap.size w W) => spec_fv v xs W (h.below hb) hs
  obtain ⟨A, c, rfl, hA, hc1, hc2⟩ := h
  unfold maxLen at hc2
  have HA := Lib.hid hA
  obtain ⟨b, hb⟩ : ∃ b, b = fv xs := ⟨_, rfl⟩
  have Hfv := Lib.hid hb
  rw [← hb] at H1
  have Hb0 : Hid (Below w.heap.size w (w.alloc (.cells #[] 9))) := Lib.hid ((Below.refl _ _).alloc (Nat.le_refl _) _)
  have Hc0 : Hid ((w.alloc (.cells #[] 9)).ownsRow w.heap.size 9 1 (.slice (some ⟨w.heap.size, 0, none⟩) 0 0) ([] : List ByteArray).length (strs [])) := Lib.hid (litS0 w).row
  clear hs hA hb
  go_enter Try.func32, Try.ntmps32
  go_wp2_with fail
  go_loopw [5, 6] (fun o i wr => ∃ (k : Nat) (u0 : Value) (cs : List ByteArray), k ≤ xs.length ∧ i = .int .i64 k ∧ u0 = o ∧ Hid (Below w.heap.size w wr) ∧ Hid (wr.ownsRow w.heap.size 9 1 u0 cs.length (strs cs)) ∧ Hid (SrcTo xs s k b cs)) (fun _ i _ => xs.length - (intOf i).toNat)
  case atStart => exact ⟨0, _, [], Nat.zero_le _, rfl, rfl, Hb0, Hc0, Lib.hid (srcTo_zero xs s b)⟩
  case round =>
    obtain ⟨k, u0, cs, hk, rfl, rfl, Hb, Hc, Ht⟩ := hrel
    clear Hb0 Hc0
    by_cases hlt : k < xs.length
    · have H2 := Lib.hid (H1.out wr Hb.out)
      cases b with
      | false =>
        have Hd := Lib.hid (srcTo_false Hfv.out.symm Ht.out)
        go_wp2_with fail
        refine H2.out.mono ?_
        rintro e w2 ⟨rfl, hb2⟩
        have Hb2 := Lib.hid (below_trans' Hb.out hb2)
        have Hc2 := Lib.hid (own_below Hc.out hb2)
        clear hb2 H2 Hb Hc Ht
        go_wp2_with fail
        go_ret
        exact ⟨_, rfl, by rw [← Hd.out]; exact own_of Hc2.out, Hb2.out⟩
      | true =>
        go_wp2_with fail
        refine H2.out.mono ?_
        rintro e w2 ⟨rfl, hb2⟩
        have Hb2 := Lib.hid (below_trans' Hb.out hb2)
        have Hc2 := Lib.hid (own_below Hc.out hb2)
        obtain ⟨ad, x, rfl, hx, hcA, hcB⟩ := (HA.out.below Hb2.out).two hlt
        simp only [ftf] at hcA hcB
        have Hx := Lib.hid hx
        have Hr := Lib.hid (spec_res _ xs x.1 w2 (H.out.below Hb2.out) hl)
        have hcl := srcTo_len Ht.out
        clear hb2 H2 Hb Hc hx
        cases hr : resolve xs x.1 with
        | none =>
          have Ht2 := Lib.hid (srcTo_none Ht.out Hx.out hr)
          rw [hr, reE_none] at Hr
          clear hr Ht
          go_wp2_with fail
          refine Hr.out.mono ?_
          rintro e w3 ⟨rfl, hb3⟩
          have Hb3 := Lib.hid (below_trans' Hb2.out hb3)
          have Hc3 := Lib.hid (own_below Hc2.out hb3)
          clear hb3 Hr Hb2 Hc2 hcA hcB
          go_wp2_with fail
          go_roundw
          case rel => exact ⟨k + 1, _, cs, by omega, by go_num, rfl, Hb3, Hc3, Ht2⟩
          case measure => simp [intOf]; omega
        | some p =>
          obtain ⟨q, n⟩ := p
          by_cases hqc : q = s
          · have e1 := str_same hqc
            have Ht2 := Lib.hid (srcTo_yes Ht.out Hx.out hr hqc)
            rw [hr, reE_some] at Hr
            clear hr Ht hqc
            go_wp2_with fail
            refine Hr.out.mono ?_
            rintro e w3 ⟨rfl, hb3⟩
            have Hb4 := Lib.hid (below_trans' Hb2.out hb3)
            have Hc4 := Lib.hid (own_below Hc2.out hb3)
            have hcA4 := cellF_later hb3 hcA
            have Hi := Lib.hid (ins_any u0 cs x.1 w3 (sl_own Hc4.out) (by omega))
            clear hb3 Hr Hb2 Hc2 hcA hcB
            go_wp2_with fail
            refine Hi.out.mono ?_
            rintro e w4 ⟨u, rfl, hu, hb4⟩
            have Hb3 := Lib.hid (below_trans' Hb4.out hb4)
            have Hc3 := Lib.hid (own_base hu.row Hb4.out.size)
            clear hu hb4 Hi Hb4 Hc4
            go_wp2_with fail
            go_roundw
            case rel => exact ⟨k + 1, _, _, by omega, by go_num, rfl, Hb3, Hc3, Ht2⟩
            case measure => simp [intOf]; omega
          · have e1 := str_diff hqc
            have Ht2 := Lib.hid (srcTo_no Ht.out Hx.out hr hqc)
            rw [hr, reE_some] at Hr
            clear hr Ht hqc
            go_wp2_with fail
            refine Hr.out.mono ?_
            rintro e w3 ⟨rfl, hb3⟩
            have Hb3 := Lib.hid (below_trans' Hb2.out hb3)
            have Hc3 := Lib.hid (own_below Hc2.out hb3)
            clear hb3 Hr Hb2 Hc2 hcA hcB
            go_wp2_with fail
            go_roundw
            case rel => exact ⟨k + 1, _, cs, by omega, by go_num, rfl, Hb3, Hc3, Ht2⟩
            case measure => simp [intOf]; omega
    · have hk' : k = xs.length := by omega
      subst hk'
      have Hd : Hid (cs = sources xs s) := Lib.hid (srcTo_end (by have := Ht.out; rw [Hfv.out] at this; exact this))
      clear Ht
      go_wp2_with fail
      go_ret
      exact ⟨_, rfl, by rw [← Hd.out]; exact own_of Hc.out, Hb.out⟩
end Go.Proofs.Ytefgfdehinpbaaa
