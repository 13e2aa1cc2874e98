
/- The walks of ForwardBatch. -/
import Derived.Test.YtefgfdehinpbaaaFwLaw3
import Derived.Test.YtefgfdehinpbaaaTy7
namespace Go.Proofs.Ytefgfdehinpbaaa
open Go.RowKit
set_option linter.unusedVariables false

theorem newL (W : World) (x : Ltr) : Below W.heap.size W (W.alloc (.cells #[.int .i64 x.1, .string x.2] 44)) ∧ Rd (W.alloc (.cells #[.int .i64 x.1, .string x.2] 44)) (some ⟨W.heap.size, 0, none⟩) (lcs [x]) :=
  ⟨(Below.refl _ _).alloc (Nat.le_refl _) _, rd_new W (lcs [x]) 44⟩
theorem boxL (W : World) (x : Ltr) : (W.alloc (.cells #[.int .i64 x.1, .string x.2] 44)).cell? ⟨W.heap.size, 0, none⟩ = some (.int .i64 x.1) ∧ (W.alloc (.cells #[.int .i64 x.1, .string x.2] 44)).cell? ⟨W.heap.size, 1, none⟩ = some (.string x.2) := by
  constructor
  · rw [World.cell?_alloc_at _ _ _ _ rfl]; rfl
  · rw [World.cell?_alloc_at _ _ _ _ rfl]; rfl
theorem lcs_snoc4 (xs : List Ltr) (x : Ltr) : lcs (xs ++ [x]) = lcs xs ++ lcs [x] := cs2_append _ _
theorem moved_gap4 {w w' : World} {v v' u : Value} (hm : v'.ownBlock = v.ownBlock ∨ v'.ownBlock = some w.heap.size) (ha : Apart u v) (hu : ∀ g, u.ownBlock = some g → g < w.heap.size) : Apart u v' := fun g hg hg2 => by
  rcases hm with h | h
  · exact ha g hg (h ▸ hg2)
  · rw [h] at hg2
    injection hg2 with hg2
    have := hu g hg
    omega
theorem ret_fb {u v : Value} {a b : Bool} (h : a = b) : Ending.returned (.tuple #[u, v, .bool b]) = .returned (.tuple #[u, v, .bool a]) := by rw [h]
/-- Two rows of letters of the call's own, apart: those sent and those stuck of the first k. -/
structure TwoFb (w : World) (B : Nat) (u u2 : Value) (xs : List Fwd) (ys : List Ltr) (k : Nat) (l m : List Ltr) : Prop where
  l_eq : l = sentT xs (ys.take k)
  m_eq : m = stuckT xs (ys.take k)
  sent : w.ownsRow B 44 2 u l.length (lcs l)
  stuck : w.ownsRow B 44 2 u2 m.length (lcs m)
  apart : Apart u2 u
theorem TwoFb.llen {w : World} {B : Nat} {u u2 : Value} {xs : List Fwd} {ys : List Ltr} {k : Nat} {l m : List Ltr} (h : TwoFb w B u u2 xs ys k l m) : l.length ≤ ys.length := by
  rw [h.l_eq]; have := sentT_len xs (ys.take k); rw [List.length_take] at this; omega
theorem TwoFb.mlen {w : World} {B : Nat} {u u2 : Value} {xs : List Fwd} {ys : List Ltr} {k : Nat} {l m : List Ltr} (h : TwoFb w B u u2 xs ys k l m) : m.length ≤ ys.length := by
  rw [h.m_eq]; have := stuckT_len xs (ys.take k); rw [List.length_take] at this; omega
theorem TwoFb.below {w w' : World} {B : Nat} {u u2 : Value} {xs : List Fwd} {ys : List Ltr} {k : Nat} {l m : List Ltr} (h : TwoFb w B u u2 xs ys k l m) (hb : Below w.heap.size w w') : TwoFb w' B u u2 xs ys k l m :=
  ⟨h.l_eq, h.m_eq, own_below h.sent hb, own_below h.stuck hb, h.apart⟩
theorem TwoFb.more {w w' : World} {B : Nat} {u u2 v : Value} {xs : List Fwd} {ys : List Ltr} {k : Nat} {l m : List Ltr} {x : Ltr} {p : ByteArray × Nat} (h : TwoFb w B u u2 xs ys k l m) (hx : ys[k]? = some x) (hr : resolve xs x.2 = some p) (ho : w'.ownsRow B 44 2 v (l.length + 1) (lcs l ++ lcs [(x.1, p.1)])) (hg : w.grownBy w' u.ownBlock) (hm : v.ownBlock = u.ownBlock ∨ v.ownBlock = some w.heap.size) : TwoFb w' B v u2 xs ys (k + 1) (l ++ [(x.1, p.1)]) m :=
  ⟨by rw [sentT_yes hx hr, h.l_eq], by rw [stuckT_yes hx hr, h.m_eq], by rw [List.length_append, lcs_snoc4]; exact ho, h.stuck.kept hg (apart_row h.apart), moved_gap4 (w' := w') hm h.apart fun g e => (h.stuck.lt g e).2⟩
theorem TwoFb.left {w w' : World} {B : Nat} {u u2 v : Value} {xs : List Fwd} {ys : List Ltr} {k : Nat} {l m : List Ltr} {x : Ltr} (h : TwoFb w B u u2 xs ys k l m) (hx : ys[k]? = some x) (hr : resolve xs x.2 = none) (ho : w'.ownsRow B 44 2 v (m.length + 1) (lcs m ++ lcs [x])) (hg : w.grownBy w' u2.ownBlock) (hm : v.ownBlock = u2.ownBlock ∨ v.ownBlock = some w.heap.size) : TwoFb w' B u v xs ys (k + 1) l (m ++ [x]) :=
  ⟨by rw [sentT_no hx hr, h.l_eq], by rw [stuckT_no hx hr, h.m_eq], h.sent.kept hg (apart_row h.apart.symm), by rw [List.length_append, lcs_snoc4]; exact ho, (moved_gap4 (w' := w') hm h.apart.symm fun g e => (h.sent.lt g e).2).symm⟩

set_option maxRecDepth 100000 in
set_option maxHeartbeats 1600000 in
theorem impl_fb (v u : Value) (xs : List Fwd) (ys : List Ltr) (w : World) (h : Ft w v xs) (hu : Lt w u ys) (hs : Szf xs) (ht : Szs ys) (hl : xs.length ≤ 100) (hm : ys.length ≤ 100) :
    Calls Try.prog 16 #[v, u] w fun e w' => ∃ s t, e = .returned (.tuple #[s, t, .bool (fbOk xs ys)]) ∧ Own w' w.heap.size w'.heap.size 44 2 s (fbS xs ys).length (lcs (fbS xs ys)) ∧ Own w' w.heap.size w'.heap.size 44 2 t (fbT xs ys).length (lcs (fbT xs ys)) ∧ Below w.heap.size w w' := by
  have H := Lib.hid h
  have HL := Lib.hid hu
  have H1 := Lib.hid (impl_fv v xs w h hs)
  obtain ⟨A, c, rfl, hA, hc1, hc2⟩ := hu
  obtain ⟨VA, vc, rfl, _, _, _⟩ := h
  unfold maxLen at hc2
  have HA := Lib.hid hA
  clear hA
  go_enter Try.func16, Try.ntmps16
  go_wp2_with fail
  refine H1.out.mono ?_
  rintro e w1 ⟨rfl, hb1⟩
  have Hb1 := Lib.hid hb1
  have H2 := Lib.hid (impl_bv _ ys w1 (HL.out.below hb1) ht)
  clear H1 hb1
  cases hrv : fv xs with
  | false =>
    have Hno := Lib.hid (fb_no1 (b := ys) hrv)
    clear hrv H2
    go_wp2_with fail
    go_ret3
    exact ⟨_, _, ret_fb Hno.out, by rw [(fb_no Hno.out).1]; exact own_nil _ _ _ _ _, by rw [(fb_no Hno.out).2]; exact own_nil _ _ _ _ _, Hb1.out⟩
  | true =>
    have Hv := Lib.hid hrv
    clear hrv
    go_wp2_with fail
    refine H2.out.mono ?_
    rintro e w2 ⟨rfl, hb2⟩
    have Hb2 := Lib.hid (below_trans' Hb1.out hb2)
    clear H2 hb2 Hb1
    cases hbv : bv ys with
    | false =>
      have Hno := Lib.hid (fb_no2 (xs := xs) hbv)
      clear hbv
      go_wp2_with fail
      go_ret3
      exact ⟨_, _, ret_fb Hno.out, by rw [(fb_no Hno.out).1]; exact own_nil _ _ _ _ _, by rw [(fb_no Hno.out).2]; exact own_nil _ _ _ _ _, Hb2.out⟩
    | true =>
      have Hyes := Lib.hid (fb_yes Hv.out hbv)
      have H0 : Hid (TwoFb w2 w.heap.size (.slice none 0 0) (.slice none 0 0) xs ys 0 [] []) := Lib.hid ⟨rfl, rfl, World.ownsRow_nil _ _ _ _, World.ownsRow_nil _ _ _ _, by intro g hg; simp [Value.ownBlock] at hg⟩
      clear hbv
      go_wp2_with fail
      go_loopw [7, 8, 24] (fun a b i wr => ∃ (k : Nat) (u u2 : Value) (l m : List Ltr), k ≤ ys.length ∧ i = .int .i64 k ∧ u = a ∧ u2 = b ∧ Hid (Below w.heap.size w wr) ∧ Hid (TwoFb wr w.heap.size u u2 xs ys k l m)) (fun _ _ i _ => ys.length - (intOf i).toNat)
      case atStart => exact ⟨0, _, _, [], [], Nat.zero_le _, rfl, rfl, rfl, Hb2, H0⟩
      case round =>
        obtain ⟨k, u, u2, l, m, hk, rfl, rfl, rfl, Hb, Hz⟩ := hrel
        clear H0 Hb2
        have hll := Hz.out.llen
        have hml := Hz.out.mlen
        obtain ⟨C, cp, rfl, _, _, _, _⟩ := own_form Hz.out.sent
        obtain ⟨C2, cp2, rfl, _, _, _, _⟩ := own_form Hz.out.stuck
        by_cases hlt : k < ys.length
        · obtain ⟨ad, x, rfl, hx, hcA, hcB⟩ := (HA.out.below Hb.out).two hlt
          simp only [ltf] at hcA hcB
          have Hx := Lib.hid hx
          have hbn := (newL wr x).1
          have Hbn := Lib.hid (below_trans' Hb.out hbn)
          have Hzn := Lib.hid (Hz.out.below hbn)
          have hv0 := (boxL wr x).1
          have hv1 := (boxL wr x).2
          have H3 := Lib.hid (impl_res _ xs x.2 _ (H.out.below Hbn.out) hl)
          clear hx hbn Hb Hz
          cases hr : resolve xs x.2 with
          | some p =>
            obtain ⟨q, n⟩ := p
            have Hr := Lib.hid hr
            rw [hr, reE_some] at H3
            clear hr
            go_wp2_with fail
            refine H3.out.mono ?_
            rintro e w3 ⟨rfl, hb3⟩
            have hv2 := cellF_later hb3 hv0
            have hb4 := below_trans' hb3 (newL w3 (x.1, q)).1
            have Hb4 := Lib.hid (below_trans' Hbn.out hb4)
            have Hz4 := Lib.hid (Hzn.out.below hb4)
            have Hnw := Lib.hid (newL w3 (x.1, q)).2
            clear H3 hb3 hb4 hv0 hv1 hcA hcB Hzn Hbn
            go_wp2_with (at_builtin; refine wpList_append_rd rfl (.tmp 37) (.tmp 42) 36 rfl ltr_elem (base := w.heap.size) (.slice C l.length cp) l.length (lcs l) rfl Hz4.out.sent (some ⟨w3.heap.size, 0, none⟩) 1 1 (lcs [(x.1, q)]) rfl rfl Hnw.out (lcs_oneCell _) (by unfold maxLen; omega) (by omega) Hb4.out.size ?_; intro v5 w5 hown5 hg5 hm5)
            have Hb5 := Lib.hid (Hb4.out.grown hg5 Hb4.out.size (fun g e => (Hz4.out.sent.lt g e).1))
            have Hz5 := Lib.hid (Hz4.out.more Hx.out Hr.out hown5 hg5 hm5)
            clear hown5 hg5 hm5 Hz4 Hb4 Hnw
            go_roundw
            case rel => exact ⟨k + 1, _, _, _, _, by omega, by go_num, rfl, rfl, Hb5, Hz5⟩
            case measure => simp [intOf]; omega
          | none =>
            have Hr := Lib.hid hr
            rw [hr, reE_none] at H3
            clear hr
            go_wp2_with fail
            refine H3.out.mono ?_
            rintro e w3 ⟨rfl, hb3⟩
            have hv2 := cellF_later hb3 hv0
            have hv3 := cellF_later hb3 hv1
            have hb4 := below_trans' hb3 (newL w3 x).1
            have Hb4 := Lib.hid (below_trans' Hbn.out hb4)
            have Hz4 := Lib.hid (Hzn.out.below hb4)
            have Hnw := Lib.hid (newL w3 x).2
            clear H3 hb3 hb4 hv0 hv1 hcA hcB Hzn Hbn
            go_wp2_with (at_builtin; refine wpList_append_rd rfl (.tmp 44) (.tmp 46) 36 rfl ltr_elem (base := w.heap.size) (.slice C2 m.length cp2) m.length (lcs m) rfl Hz4.out.stuck (some ⟨w3.heap.size, 0, none⟩) 1 1 (lcs [x]) rfl rfl Hnw.out (lcs_oneCell _) (by unfold maxLen; omega) (by omega) Hb4.out.size ?_; intro v5 w5 hown5 hg5 hm5)
            have Hb5 := Lib.hid (Hb4.out.grown hg5 Hb4.out.size (fun g e => (Hz4.out.stuck.lt g e).1))
            have Hz5 := Lib.hid (Hz4.out.left Hx.out Hr.out hown5 hg5 hm5)
            clear hown5 hg5 hm5 Hz4 Hb4 Hnw
            go_roundw
            case rel => exact ⟨k + 1, _, _, _, _, by omega, by go_num, rfl, rfl, Hb5, Hz5⟩
            case measure => simp [intOf]; omega
        · have hk' : k = ys.length := by omega
          subst hk'
          have e1 := Hz.out.l_eq
          have e2 := Hz.out.m_eq
          rw [List.take_length, ← Hyes.out.2.1] at e1
          rw [List.take_length, ← Hyes.out.2.2] at e2
          have E1 := Lib.hid e1
          have E2 := Lib.hid e2
          clear e1 e2
          go_wp2_with fail
          go_ret3
          exact ⟨_, _, ret_fb Hyes.out.1, by rw [← E1.out]; exact own_of Hz.out.sent, by rw [← E2.out]; exact own_of Hz.out.stuck, Hb.out⟩

set_option maxRecDepth 100000 in
set_option maxHeartbeats 1600000 in
theorem spec_fb (v u : Value) (xs : List Fwd) (ys : List Ltr) (w : World) (h : Ft w v xs) (hu : Lt w u ys) (hs : Szf xs) (ht : Szs ys) (hl : xs.length ≤ 100) (hm : ys.length ≤ 100) :
    Calls Try.prog 17 #[v, u] w fun e w' => ∃ s t, e = .returned (.tuple #[s, t, .bool (fbOk xs ys)]) ∧ Own w' w.heap.size w'.heap.size 44 2 s (fbS xs ys).length (lcs (fbS xs ys)) ∧ Own w' w.heap.size w'.heap.size 44 2 t (fbT xs ys).length (lcs (fbT xs ys)) ∧ Below w.heap.size w w' := by
  have H := Lib.hid h
  have HL := Lib.hid hu
  obtain ⟨wa, hwa⟩ : ∃ wa, wa = w.alloc (.cells #[] 44) := ⟨_, rfl⟩
  obtain ⟨wb, hwb⟩ : ∃ wb, wb = wa.alloc (.cells #[] 44) := ⟨_, rfl⟩
  have hba : Below w.heap.size w wa := by rw [hwa]; exact (Below.refl _ _).alloc (Nat.le_refl _) _
  have hbb : Below wa.heap.size wa wb := by rw [hwb]; exact (Below.refl _ _).alloc (Nat.le_refl _) _
  have hwaz : wa.heap.size = w.heap.size + 1 := by rw [hwa, World.size_alloc]
  have h01 : wa.ownsRow w.heap.size 44 2 (.slice (some ⟨w.heap.size, 0, none⟩) 0 0) 0 (lcs []) := by rw [hwa]; exact World.ownsRow_lit w #[] 0 (Nat.le_refl _) (Nat.zero_le _) rfl
  have h02 : wb.ownsRow w.heap.size 44 2 (.slice (some ⟨wa.heap.size, 0, none⟩) 0 0) 0 (lcs []) := by rw [hwb]; exact World.ownsRow_lit wa #[] 0 (by omega) (Nat.zero_le _) rfl
  have H0 : Hid (TwoFb wb w.heap.size (.slice (some ⟨w.heap.size, 0, none⟩) 0 0) (.slice (some ⟨wa.heap.size, 0, none⟩) 0 0) xs ys 0 [] []) := Lib.hid ⟨rfl, rfl, own_below h01 hbb, h02, by intro g hg hg2; simp [Value.ownBlock] at hg hg2; omega⟩
  have Hb0 := Lib.hid (below_trans' hba hbb)
  rw [hwaz] at H0
  have H1 := Lib.hid (spec_fv v xs wb (H.out.below Hb0.out) hs)
  rw [hwb, hwa] at H1 H0 Hb0
  obtain ⟨A, c, rfl, hA, hc1, hc2⟩ := hu
  obtain ⟨VA, vc, rfl, _, _, _⟩ := h
  unfold maxLen at hc2
  have HA := Lib.hid hA
  clear hA hwb hwa hba hbb hwaz h01 h02
  go_enter Try.func17, Try.ntmps17
  go_wp2_with fail
  refine H1.out.mono ?_
  rintro e w1 ⟨rfl, hb1⟩
  have Hb1 := Lib.hid (below_trans' Hb0.out hb1)
  have Hz1 := Lib.hid (H0.out.below hb1)
  have H2 := Lib.hid (spec_bv _ ys w1 (HL.out.below Hb1.out) ht)
  clear H1 hb1 H0 Hb0
  cases hrv : fv xs with
  | false =>
    have Hno := Lib.hid (fb_no1 (b := ys) hrv)
    clear hrv H2
    go_wp2_with fail
    go_ret3
    exact ⟨_, _, ret_fb Hno.out, by rw [(fb_no Hno.out).1]; exact own_of Hz1.out.sent, by rw [(fb_no Hno.out).2]; exact own_of Hz1.out.stuck, Hb1.out⟩
  | true =>
    have Hv := Lib.hid hrv
    clear hrv
    go_wp2_with fail
    refine H2.out.mono ?_
    rintro e w2 ⟨rfl, hb2⟩
    have Hb2 := Lib.hid (below_trans' Hb1.out hb2)
    have Hz2 := Lib.hid (Hz1.out.below hb2)
    clear H2 hb2 Hb1 Hz1
    cases hbv : bv ys with
    | false =>
      have Hno := Lib.hid (fb_no2 (xs := xs) hbv)
      clear hbv
      go_wp2_with fail
      go_ret3
      exact ⟨_, _, ret_fb Hno.out, by rw [(fb_no Hno.out).1]; exact own_of Hz2.out.sent, by rw [(fb_no Hno.out).2]; exact own_of Hz2.out.stuck, Hb2.out⟩
    | true =>
      have Hyes := Lib.hid (fb_yes Hv.out hbv)
      clear hbv
      go_wp2_with fail
      go_loopw [7, 8, 9] (fun a b i wr => ∃ (k : Nat) (u u2 : Value) (l m : List Ltr), k ≤ ys.length ∧ i = .int .i64 k ∧ u = a ∧ u2 = b ∧ Hid (Below w.heap.size w wr) ∧ Hid (TwoFb wr w.heap.size u u2 xs ys k l m)) (fun _ _ i _ => ys.length - (intOf i).toNat)
      case atStart => exact ⟨0, _, _, [], [], Nat.zero_le _, rfl, rfl, rfl, Hb2, Hz2⟩
      case round =>
        obtain ⟨k, u, u2, l, m, hk, rfl, rfl, rfl, Hb, Hz⟩ := hrel
        clear Hz2 Hb2
        have hll := Hz.out.llen
        have hml := Hz.out.mlen
        obtain ⟨C, cp, rfl, _, _, _, _⟩ := own_form Hz.out.sent
        obtain ⟨C2, cp2, rfl, _, _, _, _⟩ := own_form Hz.out.stuck
        by_cases hlt : k < ys.length
        · obtain ⟨ad, x, rfl, hx, hcA, hcB⟩ := (HA.out.below Hb.out).two hlt
          simp only [ltf] at hcA hcB
          have Hx := Lib.hid hx
          have H3 := Lib.hid (spec_res _ xs x.2 _ (H.out.below Hb.out) hl)
          clear hx
          cases hr : resolve xs x.2 with
          | some p =>
            obtain ⟨q, n⟩ := p
            have Hr := Lib.hid hr
            rw [hr, reE_some] at H3
            clear hr
            go_wp2_with fail
            refine H3.out.mono ?_
            rintro e w3 ⟨rfl, hb3⟩
            have hv2 := cellF_later hb3 hcA
            have hb4 := below_trans' hb3 (newL w3 (x.1, q)).1
            have Hb4 := Lib.hid (below_trans' Hb.out hb4)
            have Hz4 := Lib.hid (Hz.out.below hb4)
            have Hnw := Lib.hid (newL w3 (x.1, q)).2
            clear H3 hb3 hb4 hcA hcB Hz Hb
            go_wp2_with (at_builtin; refine wpList_append_rd rfl (.tmp 43) (.tmp 51) 36 rfl ltr_elem (base := w.heap.size) (.slice C l.length cp) l.length (lcs l) rfl Hz4.out.sent (some ⟨w3.heap.size, 0, none⟩) 1 1 (lcs [(x.1, q)]) rfl rfl Hnw.out (lcs_oneCell _) (by unfold maxLen; omega) (by omega) Hb4.out.size ?_; intro v5 w5 hown5 hg5 hm5)
            have Hb5 := Lib.hid (Hb4.out.grown hg5 Hb4.out.size (fun g e => (Hz4.out.sent.lt g e).1))
            have Hz5 := Lib.hid (Hz4.out.more Hx.out Hr.out hown5 hg5 hm5)
            clear hown5 hg5 hm5 Hz4 Hb4 Hnw
            go_roundw
            case rel => exact ⟨k + 1, _, _, _, _, by omega, by go_num, rfl, rfl, Hb5, Hz5⟩
            case measure => simp [intOf]; omega
          | none =>
            have Hr := Lib.hid hr
            rw [hr, reE_none] at H3
            clear hr
            go_wp2_with fail
            refine H3.out.mono ?_
            rintro e w3 ⟨rfl, hb3⟩
            have hv2 := cellF_later hb3 hcA
            have hv3 := cellF_later hb3 hcB
            have hb4 := below_trans' hb3 (newL w3 x).1
            have Hb4 := Lib.hid (below_trans' Hb.out hb4)
            have Hz4 := Lib.hid (Hz.out.below hb4)
            have Hnw := Lib.hid (newL w3 x).2
            clear H3 hb3 hb4 hcA hcB Hz Hb
            go_wp2_with (at_builtin; refine wpList_append_rd rfl (.tmp 53) (.tmp 58) 36 rfl ltr_elem (base := w.heap.size) (.slice C2 m.length cp2) m.length (lcs m) rfl Hz4.out.stuck (some ⟨w3.heap.size, 0, none⟩) 1 1 (lcs [x]) rfl rfl Hnw.out (lcs_oneCell _) (by unfold maxLen; omega) (by omega) Hb4.out.size ?_; intro v5 w5 hown5 hg5 hm5)
            have Hb5 := Lib.hid (Hb4.out.grown hg5 Hb4.out.size (fun g e => (Hz4.out.stuck.lt g e).1))
            have Hz5 := Lib.hid (Hz4.out.left Hx.out Hr.out hown5 hg5 hm5)
            clear hown5 hg5 hm5 Hz4 Hb4 Hnw
            go_roundw
            case rel => exact ⟨k + 1, _, _, _, _, by omega, by go_num, rfl, rfl, Hb5, Hz5⟩
            case measure => simp [intOf]; omega
        · have hk' : k = ys.length := by omega
          subst hk'
          have e1 := Hz.out.l_eq
          have e2 := Hz.out.m_eq
          rw [List.take_length, ← Hyes.out.2.1] at e1
          rw [List.take_length, ← Hyes.out.2.2] at e2
          have E1 := Lib.hid e1
          have E2 := Lib.hid e2
          clear e1 e2
          go_wp2_with fail
          go_ret3
          exact ⟨_, _, ret_fb Hyes.out.1, by rw [← E1.out]; exact own_of Hz.out.sent, by rw [← E2.out]; exact own_of Hz.out.stuck, Hb.out⟩

end Go.Proofs.Ytefgfdehinpbaaa
