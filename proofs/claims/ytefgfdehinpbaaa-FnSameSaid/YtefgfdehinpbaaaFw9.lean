
/- The walks of LongestChain and of SameForwards. -/
import Derived.Test.YtefgfdehinpbaaaFw6
import Derived.Test.YtefgfdehinpbaaaFwCat
namespace Go.Proofs.Ytefgfdehinpbaaa
open Go.RowKit
set_option linter.unusedVariables false

/-- The greatest number of orders that follow each other, of the first k. -/
def longT (xs : List Fwd) : Nat → Int
  | 0 => 0
  | k + 1 => match xs[k]? with
    | some x => (match resolve xs x.1 with | some p => max (longT xs k) (p.2 : Int) | none => longT xs k)
    | none => longT xs k
theorem longT_some {xs : List Fwd} {k : Nat} {x : Fwd} {p : ByteArray × Nat} (hx : xs[k]? = some x) (h : resolve xs x.1 = some p) : longT xs (k + 1) = max (longT xs k) (p.2 : Int) := by simp [longT, hx, h]
theorem longT_none {xs : List Fwd} {k : Nat} {x : Fwd} (hx : xs[k]? = some x) (h : resolve xs x.1 = none) : longT xs (k + 1) = longT xs k := by simp [longT, hx, h]
def longest (xs : List Fwd) : Int := if fv xs then longT xs xs.length else -1
theorem longest_no {xs : List Fwd} (h : fv xs = false) : longest xs = -1 := by simp [longest, h]
theorem longest_yes {xs : List Fwd} (h : fv xs = true) : longest xs = longT xs xs.length := by simp [longest, h]

set_option maxRecDepth 100000 in
set_option maxHeartbeats 1600000 in
theorem impl_longest (v : Value) (xs : List Fwd) (w : World) (h : Ft w v xs) (hs : Szf xs) (hl : xs.length ≤ 100) :
    Calls Try.prog 25 #[v] w fun e w' => e = .returned (.int .i64 (longest xs)) ∧ Below w.heap.size w w' := by
  have H := Lib.hid h
  have H1 := Lib.hid (impl_fv v xs w h hs)
  obtain ⟨A, c, rfl, hA, hc1, hc2⟩ := h
  unfold maxLen at hc2
  have HA := Lib.hid hA
  clear hs hA
  go_enter Try.func25, Try.ntmps25
  go_wp2_with fail
  refine H1.out.mono ?_
  rintro e w1 ⟨rfl, hb1⟩
  have Hb1 := Lib.hid hb1
  clear H1 hb1
  cases hrv : fv xs with
  | false =>
    have Hno := Lib.hid (longest_no hrv)
    clear hrv
    go_wp2_with fail
    go_ret
    exact ⟨ret_int Hno.out.symm, Hb1.out⟩
  | true =>
    have Hyes := Lib.hid (longest_yes hrv)
    clear hrv
    go_wp2_with fail
    go_loopw [3, 14] (fun o i wr => ∃ (k : Nat) (m : Int), k ≤ xs.length ∧ i = .int .i64 k ∧ o = .int .i64 m ∧ Hid (Below w.heap.size w wr) ∧ Hid (longT xs k = m)) (fun _ i _ => xs.length - (intOf i).toNat)
    case atStart => exact ⟨0, 0, Nat.zero_le _, rfl, rfl, Hb1, Lib.hid rfl⟩
    case round =>
      obtain ⟨k, m, hk, rfl, rfl, Hb, Hm⟩ := hrel
      clear Hb1
      by_cases hlt : k < xs.length
      · obtain ⟨ad, x, rfl, hx, hcA, hcB⟩ := (HA.out.below Hb.out).two hlt
        simp only [ftf] at hcA hcB
        have Hx := Lib.hid hx
        have Hb2 := Lib.hid (below_step Hb.out Hb.out.size (newF wr x).1)
        have Hr := Lib.hid (impl_res _ xs x.1 _ (H.out.below Hb2.out) hl)
        have hv1 := (boxF wr x).1
        clear hx Hb
        cases hr : resolve xs x.1 with
        | some p =>
          obtain ⟨q, n⟩ := p
          have Hst := Lib.hid (longT_some Hx.out hr)
          rw [hr, reE_some] at Hr
          clear hr
          go_wp2_with fail
          refine Hr.out.mono ?_
          rintro e w2 ⟨rfl, hb2⟩
          have Hb3 := Lib.hid (below_trans' Hb2.out hb2)
          clear hb2 Hb2 Hr hcA hcB hv1
          go_wp2_with fail
          go_roundw
          case rel => exact ⟨k + 1, _, by omega, by go_num, rfl, Hb3, Lib.hid (by rw [Hst.out, Hm.out])⟩
          case measure => simp [intOf]; omega
        | none =>
          have Hst := Lib.hid (longT_none Hx.out hr)
          rw [hr, reE_none] at Hr
          clear hr
          go_wp2_with fail
          refine Hr.out.mono ?_
          rintro e w2 ⟨rfl, hb2⟩
          have Hb3 := Lib.hid (below_trans' Hb2.out hb2)
          clear hb2 Hb2 Hr hcA hcB hv1
          go_wp2_with fail
          go_roundw
          case rel => exact ⟨k + 1, _, by omega, by go_num, rfl, Hb3, Lib.hid (by rw [Hst.out, Hm.out])⟩
          case measure => simp [intOf]; omega
      · have hk' : k = xs.length := by omega
        subst hk'
        go_wp2_with fail
        go_ret
        exact ⟨ret_int (by rw [Hyes.out, Hm.out]), Hb.out⟩

/-- Letters for a code end alike. -/
def alike (a b : List Fwd) (c : ByteArray) : Bool := decide ((resolve a c).isSome = (resolve b c).isSome) && decide (reS (resolve a c) = reS (resolve b c))
theorem alike_true {a b : List Fwd} {c : ByteArray} (h1 : (resolve a c).isSome = (resolve b c).isSome) (h2 : reS (resolve a c) = reS (resolve b c)) : alike a b c = true := by simp [alike, h1, h2]
theorem alike_some {a b : List Fwd} {c : ByteArray} (h1 : (resolve a c).isSome ≠ (resolve b c).isSome) : alike a b c = false := by simp [alike, h1]
theorem alike_str {a b : List Fwd} {c : ByteArray} (h1 : reS (resolve a c) ≠ reS (resolve b c)) : alike a b c = false := by simp [alike, h1]
def sameF (a b : List Fwd) : Bool := (fv a && fv b) && (a ++ b).all fun r => alike a b r.1
theorem sameF_no1 {a b : List Fwd} (h : fv a = false) : sameF a b = false := by simp [sameF, h]
theorem sameF_no2 {a b : List Fwd} (h : fv b = false) : sameF a b = false := by simp [sameF, h]
theorem sameF_not {a b : List Fwd} {k : Nat} {x : Fwd} (hx : (a ++ b)[k]? = some x) (h : alike a b x.1 = false) : sameF a b = false := by
  rw [sameF, all_not (p := fun r : Fwd => alike a b r.1) hx h, Bool.and_false]
theorem sameF_yes {a b : List Fwd} (h1 : fv a = true) (h2 : fv b = true) (h : ((a ++ b).take (a ++ b).length).all (fun r => alike a b r.1) = true) : sameF a b = true := by
  rw [List.take_length] at h
  rw [sameF, h1, h2, h]; rfl

theorem rows2 {w : World} {u v : Value} {a b : List Fwd} (hu : Ft w u a) (hv : Ft w v b) : SlRows Ft w [u, v] [a, b] := by
  refine ⟨rfl, fun i x xs h1 h2 => ?_⟩
  match i, h1, h2 with
  | 0, h1, h2 =>
    simp only [List.getElem?_cons_zero, Option.some.injEq] at h1 h2
    subst h1 h2; exact hu
  | 1, h1, h2 =>
    simp only [List.getElem?_cons_succ, List.getElem?_cons_zero, Option.some.injEq] at h1 h2
    subst h1 h2; exact hv
  | n + 2, h1, h2 => simp at h1

set_option maxRecDepth 100000 in
set_option maxHeartbeats 3200000 in
theorem impl_same (v u : Value) (a b : List Fwd) (w : World) (h : Ft w v a) (hu : Ft w u b) (hs : Szf a) (ht : Szf b) (hl : a.length ≤ 100) (hm : b.length ≤ 100) :
    Calls Try.prog 9 #[v, u] w fun e w' => e = .returned (.bool (sameF a b)) ∧ Below w.heap.size w w' := by
  have H := Lib.hid h
  have HU := Lib.hid hu
  have H1 := Lib.hid (impl_fv v a w h hs)
  have Ht := Lib.hid ht
  obtain ⟨VA, vc, rfl, _, hvc1, hvc2⟩ := h
  obtain ⟨UA, uc, rfl, _, huc1, huc2⟩ := hu
  clear hs ht
  go_enter Try.func9, Try.ntmps9
  go_wp2_with fail
  refine H1.out.mono ?_
  rintro e w1 ⟨rfl, hb1⟩
  have Hb1 := Lib.hid hb1
  clear H1 hb1
  cases hrv : fv a with
  | false =>
    have Hno := Lib.hid (sameF_no1 (b := b) hrv)
    clear hrv
    go_wp2_with fail
    go_ret
    exact ⟨ret_bool Hno.out.symm, Hb1.out⟩
  | true =>
    have Ha := Lib.hid hrv
    have H2 := Lib.hid (impl_fv _ b w1 (HU.out.below Hb1.out) Ht.out)
    clear hrv
    go_wp2_with fail
    refine H2.out.mono ?_
    rintro e w2 ⟨rfl, hb2⟩
    have Hb2 := Lib.hid (below_trans' Hb1.out hb2)
    clear H2 hb2 Hb1
    cases hrb : fv b with
    | false =>
      have Hno := Lib.hid (sameF_no2 (a := a) hrb)
      clear hrb
      go_wp2_with fail
      go_ret
      exact ⟨ret_bool Hno.out.symm, Hb2.out⟩
    | true =>
      have HB := Lib.hid hrb
      have hba : Below w2.heap.size w2 (w2.alloc (.cells #[.slice VA a.length vc, .slice UA b.length uc] 23)) := (Below.refl _ _).alloc (Nat.le_refl _) _
      have Hb3 := Lib.hid (below_step Hb2.out Hb2.out.size hba)
      have H3 := Lib.hid (concat_any (some ⟨w2.heap.size, 0, none⟩) 2 [.slice VA a.length vc, .slice UA b.length uc] [a, b] _ (rd_new w2 [.slice VA a.length vc, .slice UA b.length uc] 23) (rows2 (H.out.below Hb3.out) (HU.out.below Hb3.out)) (by simp) (by simp; omega))
      clear hrb hba
      go_wp2_with fail
      refine H3.out.mono ?_
      rintro e w3 ⟨z, rfl, hz, hb3⟩
      have Hb4 := Lib.hid (below_trans' Hb3.out hb3)
      obtain ⟨ys, hys⟩ : ∃ ys, ys = a ++ b := ⟨_, rfl⟩
      have hfl : [a, b].flatten = ys := by rw [hys]; simp
      have hll : ys.length ≤ 200 := by rw [hys]; simp; omega
      rw [hfl] at hz
      obtain ⟨A, c, rfl, hc1, hc2, hA, _⟩ := own_form hz
      unfold maxLen at hc2
      have HA := Lib.hid hA
      have Hys := Lib.hid hys
      clear H3 hb3 Hb3 hz hA hfl hys
      go_wp2_with fail
      go_loopw [26] (fun i wr => ∃ k : Nat, k ≤ ys.length ∧ i = .int .i64 k ∧ Hid (Below w3.heap.size w3 wr) ∧ Hid ((ys.take k).all (fun r => alike a b r.1) = true)) (fun i _ => ys.length - (intOf i).toNat)
      case atStart => exact ⟨0, Nat.zero_le _, rfl, Lib.hid (Below.refl _ _), Lib.hid rfl⟩
      case round =>
        obtain ⟨k, hk, rfl, Hb, Hall⟩ := hrel
        by_cases hlt : k < ys.length
        · obtain ⟨ad, x, rfl, hx, hcA, hcB⟩ := (HA.out.below Hb.out).two hlt
          simp only [ftf] at hcA hcB
          have Hx := Lib.hid hx
          rw [Hys.out] at Hx
          have Hx0 := Lib.hid hx
          have Hb5 := Lib.hid (below_step Hb.out Hb.out.size (newF wr x).1)
          have H4 := Lib.hid (impl_res _ a x.1 _ (H.out.below (below_trans' Hb4.out Hb5.out)) hl)
          have H5 := Lib.hid fun (W : World) (hb : Below (wr.alloc (.cells #[.string x.1, .string x.2] 34)).heap.size (wr.alloc (.cells #[.string x.1, .string x.2] 34)) W) => impl_res _ b x.1 W (HU.out.below (below_trans' Hb4.out (below_trans' Hb5.out hb))) hm
          have hv1 := (boxF wr x).1
          unfold reE at H4 H5
          clear hx
          by_cases hq : (resolve a x.1).isSome = (resolve b x.1).isSome
          · by_cases hp : reS (resolve a x.1) = reS (resolve b x.1)
            · have Hal : Hid ((ys.take (k + 1)).all (fun r => alike a b r.1) = true) := Lib.hid (all_snoc Hall.out Hx0.out (alike_true hq hp))
              have e1 : ((resolve a x.1).isSome == (resolve b x.1).isSome) = true := by simp [hq]
              have e2 := str_same hp
              clear hq hp
              clear Hall
              generalize (resolve a x.1).isSome = B1 at *
              generalize (resolve b x.1).isSome = B2 at *
              generalize reS (resolve a x.1) = S1 at *
              generalize reS (resolve b x.1) = S2 at *
              generalize reN (resolve a x.1) = N1 at *
              generalize reN (resolve b x.1) = N2 at *
              go_wp2_with fail
              refine H4.out.mono ?_
              rintro e w5 ⟨rfl, hb5⟩
              have hv2 := cellF_later hb5 hv1
              have H6 := Lib.hid (H5.out w5 hb5)
              have Hb6 := Lib.hid (below_trans' Hb5.out hb5)
              clear H4 H5 hb5 hcA hcB hv1
              go_wp2_with fail
              refine H6.out.mono ?_
              rintro e w6 ⟨rfl, hb6⟩
              have Hb7 := Lib.hid (below_trans' Hb6.out hb6)
              clear H6 hb6 hv2
              go_wp2_with fail
              go_roundw
              case rel => exact ⟨k + 1, by omega, by go_num, Hb7, Hal⟩
              case measure => simp [intOf]; omega
            · have Hno := Lib.hid (sameF_not Hx.out (alike_str hp))
              have e1 : ((resolve a x.1).isSome == (resolve b x.1).isSome) = true := by simp [hq]
              have e2 := str_diff hp
              clear hq hp
              clear Hall
              generalize (resolve a x.1).isSome = B1 at *
              generalize (resolve b x.1).isSome = B2 at *
              generalize reS (resolve a x.1) = S1 at *
              generalize reS (resolve b x.1) = S2 at *
              generalize reN (resolve a x.1) = N1 at *
              generalize reN (resolve b x.1) = N2 at *
              go_wp2_with fail
              refine H4.out.mono ?_
              rintro e w5 ⟨rfl, hb5⟩
              have hv2 := cellF_later hb5 hv1
              have H6 := Lib.hid (H5.out w5 hb5)
              have Hb6 := Lib.hid (below_trans' Hb5.out hb5)
              clear H4 H5 hb5 hcA hcB hv1
              go_wp2_with fail
              refine H6.out.mono ?_
              rintro e w6 ⟨rfl, hb6⟩
              have Hb7 := Lib.hid (below_trans' Hb6.out hb6)
              clear H6 hb6 hv2
              go_wp2_with fail
              go_ret
              exact ⟨ret_bool Hno.out.symm, below_trans' Hb4.out Hb7.out⟩
          · by_cases hp : reS (resolve a x.1) = reS (resolve b x.1)
            · have Hno := Lib.hid (sameF_not Hx.out (alike_some hq))
              have e1 : ((resolve a x.1).isSome == (resolve b x.1).isSome) = false := by simp [hq]
              have e2 := str_same hp
              clear hq hp
              clear Hall
              generalize (resolve a x.1).isSome = B1 at *
              generalize (resolve b x.1).isSome = B2 at *
              generalize reS (resolve a x.1) = S1 at *
              generalize reS (resolve b x.1) = S2 at *
              generalize reN (resolve a x.1) = N1 at *
              generalize reN (resolve b x.1) = N2 at *
              go_wp2_with fail
              refine H4.out.mono ?_
              rintro e w5 ⟨rfl, hb5⟩
              have hv2 := cellF_later hb5 hv1
              have H6 := Lib.hid (H5.out w5 hb5)
              have Hb6 := Lib.hid (below_trans' Hb5.out hb5)
              clear H4 H5 hb5 hcA hcB hv1
              go_wp2_with fail
              refine H6.out.mono ?_
              rintro e w6 ⟨rfl, hb6⟩
              have Hb7 := Lib.hid (below_trans' Hb6.out hb6)
              clear H6 hb6 hv2
              go_wp2_with fail
              go_ret
              exact ⟨ret_bool Hno.out.symm, below_trans' Hb4.out Hb7.out⟩
            · have Hno := Lib.hid (sameF_not Hx.out (alike_some hq))
              have e1 : ((resolve a x.1).isSome == (resolve b x.1).isSome) = false := by simp [hq]
              have e2 := str_diff hp
              clear hq hp
              clear Hall
              generalize (resolve a x.1).isSome = B1 at *
              generalize (resolve b x.1).isSome = B2 at *
              generalize reS (resolve a x.1) = S1 at *
              generalize reS (resolve b x.1) = S2 at *
              generalize reN (resolve a x.1) = N1 at *
              generalize reN (resolve b x.1) = N2 at *
              go_wp2_with fail
              refine H4.out.mono ?_
              rintro e w5 ⟨rfl, hb5⟩
              have hv2 := cellF_later hb5 hv1
              have H6 := Lib.hid (H5.out w5 hb5)
              have Hb6 := Lib.hid (below_trans' Hb5.out hb5)
              clear H4 H5 hb5 hcA hcB hv1
              go_wp2_with fail
              refine H6.out.mono ?_
              rintro e w6 ⟨rfl, hb6⟩
              have Hb7 := Lib.hid (below_trans' Hb6.out hb6)
              clear H6 hb6 hv2
              go_wp2_with fail
              go_ret
              exact ⟨ret_bool Hno.out.symm, below_trans' Hb4.out Hb7.out⟩
        · have hk' : k = ys.length := by omega
          subst hk'
          have Hfin := Lib.hid (sameF_yes Ha.out HB.out (by rw [← Hys.out]; exact Hall.out))
          go_wp2_with fail
          go_ret
          exact ⟨ret_bool Hfin.out.symm, below_trans' Hb4.out Hb.out⟩

set_option maxRecDepth 100000 in
set_option maxHeartbeats 3200000 in
theorem spec_same (v u : Value) (a b : List Fwd) (w : World) (h : Ft w v a) (hu : Ft w u b) (hs : Szf a) (ht : Szf b) (hl : a.length ≤ 100) (hm : b.length ≤ 100) :
    Calls Try.prog 10 #[v, u] w fun e w' => e = .returned (.bool (sameF a b)) ∧ Below w.heap.size w w' := by
  have H := Lib.hid h
  have HU := Lib.hid hu
  have H1 := Lib.hid (spec_fv v a w h hs)
  have Ht := Lib.hid ht
  obtain ⟨VA, vc, rfl, hv0, hvc1, hvc2⟩ := h
  obtain ⟨UA, uc, rfl, hu0, huc1, huc2⟩ := hu
  have HV0 := Lib.hid hv0
  have HU0 := Lib.hid hu0
  clear hs ht hv0 hu0
  go_enter Try.func10, Try.ntmps10
  go_wp2_with fail
  refine H1.out.mono ?_
  rintro e w1 ⟨rfl, hb1⟩
  have Hb1 := Lib.hid hb1
  clear H1 hb1
  cases hrv : fv a with
  | false =>
    have Hno := Lib.hid (sameF_no1 (b := b) hrv)
    clear hrv
    go_wp2_with fail
    go_ret
    exact ⟨ret_bool Hno.out.symm, Hb1.out⟩
  | true =>
    have Ha := Lib.hid hrv
    have H2 := Lib.hid (spec_fv _ b w1 (HU.out.below Hb1.out) Ht.out)
    clear hrv
    go_wp2_with fail
    refine H2.out.mono ?_
    rintro e w2 ⟨rfl, hb2⟩
    have Hb2 := Lib.hid (below_trans' Hb1.out hb2)
    clear H2 hb2 Hb1
    cases hrb : fv b with
    | false =>
      have Hno := Lib.hid (sameF_no2 (a := a) hrb)
      clear hrb
      go_wp2_with fail
      go_ret
      exact ⟨ret_bool Hno.out.symm, Hb2.out⟩
    | true =>
      have HB := Lib.hid hrb
      have hba : Below w2.heap.size w2 (w2.alloc (.cells #[] 34)) := (Below.refl _ _).alloc (Nat.le_refl _) _
      have Hb3 := Lib.hid hba
      have HR1 := Lib.hid (HV0.out.below (below_trans' Hb2.out hba))
      clear hrb hba
      go_wp2_with (first | (at_builtin; refine wpList_append_rd rfl (.tmp 21) (.tmp 22) 23 rfl fwd_elem (base := w2.heap.size) (.slice (some ⟨w2.heap.size, 0, none⟩) 0 0) 0 (fcs []) rfl (litF0 w2).row VA a.length vc (fcs a) rfl (cs2_length a) HR1.out (fcs_oneCell a) (by unfold maxLen; omega) (by omega) Hb3.out.size ?_; intro v5 w5 hown5 hg5 hm5; rw [Nat.zero_add, show fcs [] ++ fcs a = fcs a from rfl] at hown5; have Hb5 : Hid (Below w2.heap.size w2 w5) := Lib.hid (Hb3.out.grown hg5 Hb3.out.size (fun g e => by cases e; exact Nat.le_refl _)); obtain ⟨C5, cp5, rfl, _, _, _, _⟩ := own_form hown5; have Ho5 := Lib.hid hown5; clear hown5 hg5 hm5; have HR2 := Lib.hid (HU0.out.below (below_trans' Hb2.out Hb5.out))) | (at_builtin; refine wpList_append_rd rfl (.tmp 23) (.tmp 24) 23 rfl fwd_elem (base := w2.heap.size) (.slice C5 a.length cp5) a.length (fcs a) rfl Ho5.out UA b.length uc (fcs b) rfl (cs2_length b) HR2.out (fcs_oneCell b) (by unfold maxLen; omega) (by omega) Hb5.out.size ?_; intro v8 w8 hown8 hg8 hm8))
      have Hb8 := Lib.hid (Hb5.out.grown hg8 Hb5.out.size (fun g e => (Ho5.out.lt g e).1))
      obtain ⟨ys, hys⟩ : ∃ ys, ys = a ++ b := ⟨_, rfl⟩
      have hfl : a.length + b.length = ys.length := by rw [hys]; simp
      have hll : ys.length ≤ 200 := by omega
      rw [hfl, show fcs a ++ fcs b = fcs ys by rw [hys]; exact (cs2_append _ _).symm] at hown8
      obtain ⟨A, c, rfl, hc1, hc2, hA, _⟩ := own_form hown8
      unfold maxLen at hc2
      have HA := Lib.hid hA
      have Hys := Lib.hid hys
      have Hb4 := Lib.hid (below_trans' Hb2.out Hb8.out)
      clear Hb3 HR1 HR2 Ho5 Hb5 hown8 hg8 hm8 hA hfl hys Hb8
      go_wp2_with fail
      go_loopw [6] (fun i wr => ∃ k : Nat, k ≤ ys.length ∧ i = .int .i64 k ∧ Hid (Below w8.heap.size w8 wr) ∧ Hid ((ys.take k).all (fun r => alike a b r.1) = true)) (fun i _ => ys.length - (intOf i).toNat)
      case atStart => exact ⟨0, Nat.zero_le _, rfl, Lib.hid (Below.refl _ _), Lib.hid rfl⟩
      case round =>
        obtain ⟨k, hk, rfl, Hb, Hall⟩ := hrel
        by_cases hlt : k < ys.length
        · obtain ⟨ad, x, rfl, hx, hcA, hcB⟩ := (HA.out.below Hb.out).two hlt
          simp only [ftf] at hcA hcB
          have Hx := Lib.hid hx
          rw [Hys.out] at Hx
          have Hx0 := Lib.hid hx
          have Hb5 := Hb
          have H4 := Lib.hid (spec_res _ a x.1 _ (H.out.below (below_trans' Hb4.out Hb5.out)) hl)
          have H5 := Lib.hid fun (W : World) (hb : Below wr.heap.size wr W) => spec_res _ b x.1 W (HU.out.below (below_trans' Hb4.out (below_trans' Hb5.out hb))) hm
          have hv1 := hcA
          unfold reE at H4 H5
          clear hx
          by_cases hq : (resolve a x.1).isSome = (resolve b x.1).isSome
          · by_cases hp : reS (resolve a x.1) = reS (resolve b x.1)
            · have Hal : Hid ((ys.take (k + 1)).all (fun r => alike a b r.1) = true) := Lib.hid (all_snoc Hall.out Hx0.out (alike_true hq hp))
              have e1 : ((resolve a x.1).isSome == (resolve b x.1).isSome) = true := by simp [hq]
              have e2 := str_same hp
              clear hq hp
              clear Hall
              generalize (resolve a x.1).isSome = B1 at *
              generalize (resolve b x.1).isSome = B2 at *
              generalize reS (resolve a x.1) = S1 at *
              generalize reS (resolve b x.1) = S2 at *
              generalize reN (resolve a x.1) = N1 at *
              generalize reN (resolve b x.1) = N2 at *
              go_wp2_with fail
              refine H4.out.mono ?_
              rintro e w5 ⟨rfl, hb5⟩
              have hv2 := cellF_later hb5 hv1
              have H6 := Lib.hid (H5.out w5 hb5)
              have Hb6 := Lib.hid (below_trans' Hb5.out hb5)
              clear H4 H5 hb5 hcA hcB hv1
              go_wp2_with fail
              refine H6.out.mono ?_
              rintro e w6 ⟨rfl, hb6⟩
              have Hb7 := Lib.hid (below_trans' Hb6.out hb6)
              clear H6 hb6 hv2
              go_wp2_with fail
              go_roundw
              case rel => exact ⟨k + 1, by omega, by go_num, Hb7, Hal⟩
              case measure => simp [intOf]; omega
            · have Hno := Lib.hid (sameF_not Hx.out (alike_str hp))
              have e1 : ((resolve a x.1).isSome == (resolve b x.1).isSome) = true := by simp [hq]
              have e2 := str_diff hp
              clear hq hp
              clear Hall
              generalize (resolve a x.1).isSome = B1 at *
              generalize (resolve b x.1).isSome = B2 at *
              generalize reS (resolve a x.1) = S1 at *
              generalize reS (resolve b x.1) = S2 at *
              generalize reN (resolve a x.1) = N1 at *
              generalize reN (resolve b x.1) = N2 at *
              go_wp2_with fail
              refine H4.out.mono ?_
              rintro e w5 ⟨rfl, hb5⟩
              have hv2 := cellF_later hb5 hv1
              have H6 := Lib.hid (H5.out w5 hb5)
              have Hb6 := Lib.hid (below_trans' Hb5.out hb5)
              clear H4 H5 hb5 hcA hcB hv1
              go_wp2_with fail
              refine H6.out.mono ?_
              rintro e w6 ⟨rfl, hb6⟩
              have Hb7 := Lib.hid (below_trans' Hb6.out hb6)
              clear H6 hb6 hv2
              go_wp2_with fail
              go_ret
              exact ⟨ret_bool Hno.out.symm, below_trans' Hb4.out Hb7.out⟩
          · by_cases hp : reS (resolve a x.1) = reS (resolve b x.1)
            · have Hno := Lib.hid (sameF_not Hx.out (alike_some hq))
              have e1 : ((resolve a x.1).isSome == (resolve b x.1).isSome) = false := by simp [hq]
              have e2 := str_same hp
              clear hq hp
              clear Hall
              generalize (resolve a x.1).isSome = B1 at *
              generalize (resolve b x.1).isSome = B2 at *
              generalize reS (resolve a x.1) = S1 at *
              generalize reS (resolve b x.1) = S2 at *
              generalize reN (resolve a x.1) = N1 at *
              generalize reN (resolve b x.1) = N2 at *
              go_wp2_with fail
              refine H4.out.mono ?_
              rintro e w5 ⟨rfl, hb5⟩
              have hv2 := cellF_later hb5 hv1
              have H6 := Lib.hid (H5.out w5 hb5)
              have Hb6 := Lib.hid (below_trans' Hb5.out hb5)
              clear H4 H5 hb5 hcA hcB hv1
              go_wp2_with fail
              refine H6.out.mono ?_
              rintro e w6 ⟨rfl, hb6⟩
              have Hb7 := Lib.hid (below_trans' Hb6.out hb6)
              clear H6 hb6 hv2
              go_wp2_with fail
              go_ret
              exact ⟨ret_bool Hno.out.symm, below_trans' Hb4.out Hb7.out⟩
            · have Hno := Lib.hid (sameF_not Hx.out (alike_some hq))
              have e1 : ((resolve a x.1).isSome == (resolve b x.1).isSome) = false := by simp [hq]
              have e2 := str_diff hp
              clear hq hp
              clear Hall
              generalize (resolve a x.1).isSome = B1 at *
              generalize (resolve b x.1).isSome = B2 at *
              generalize reS (resolve a x.1) = S1 at *
              generalize reS (resolve b x.1) = S2 at *
              generalize reN (resolve a x.1) = N1 at *
              generalize reN (resolve b x.1) = N2 at *
              go_wp2_with fail
              refine H4.out.mono ?_
              rintro e w5 ⟨rfl, hb5⟩
              have hv2 := cellF_later hb5 hv1
              have H6 := Lib.hid (H5.out w5 hb5)
              have Hb6 := Lib.hid (below_trans' Hb5.out hb5)
              clear H4 H5 hb5 hcA hcB hv1
              go_wp2_with fail
              refine H6.out.mono ?_
              rintro e w6 ⟨rfl, hb6⟩
              have Hb7 := Lib.hid (below_trans' Hb6.out hb6)
              clear H6 hb6 hv2
              go_wp2_with fail
              go_ret
              exact ⟨ret_bool Hno.out.symm, below_trans' Hb4.out Hb7.out⟩
        · have hk' : k = ys.length := by omega
          subst hk'
          have Hfin := Lib.hid (sameF_yes Ha.out HB.out (by rw [← Hys.out]; exact Hall.out))
          go_wp2_with fail
          go_ret
          exact ⟨ret_bool Hfin.out.symm, below_trans' Hb4.out Hb.out⟩
end Go.Proofs.Ytefgfdehinpbaaa
