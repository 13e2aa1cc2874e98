
/- The walks of SameRules: the recursion. -/
import Derived.Test.YtkfbgoahppfelaaNt9
import Derived.Test.YtkfbgoahppfelaaNt6
namespace Go.Proofs.Ytkfbgoahppfelaa
open Go.RowKit
set_option linter.unusedVariables false

theorem dec_any (n : Nat) (w : World) (hn : n ≤ 9) :
    Calls Try.prog 76 #[.int .i64 n] w fun e w' => e = .returned (.string (dgt n)) ∧ Below w.heap.size w w' := by
  have hcv := conv_one w (48 + n) (48 + (n : Int)) (by omega) (by omega)
  have hcs := one8_size (48 + n)
  have b1 : decide ((n : Int) < -9223372036854775807) = false := decide_eq_false (by omega)
  have b2 : decide ((n : Int) < 0) = false := decide_eq_false (by omega)
  have b3 : decide ((9 : Int) < n) = false := decide_eq_false (by omega)
  go_enter Try.func76, Try.ntmps76
  go_wp2_with fail
  refine wp_loop_rounds 1 ?_
  rw [rounds_succ]
  go_wp2_with fail
  go_ret
  have e0 : one8 (48 + n) ++ (⟨#[]⟩ : ByteArray) = one8 (48 + n) := ByteArray.ext (by rw [ByteArray.data_append]; exact Array.append_empty)
  exact ⟨ret_str (by rw [e0]; rfl), (Below.refl _ _).alloc (Nat.le_refl _) _⟩

theorem orE_same {a b : List Rul} {c : ByteArray} (ha : rv a = true) (hb : rv b = true) : ((orE (nextR a c)).toList == (orE (nextR b c)).toList) = decide (nextR a c = nextR b c) := by
  rw [str_eq]
  have nz : ∀ {rs : List Rul}, rv rs = true → ∀ s, nextR rs c = some s → s.size ≠ 0 := fun h s hs h0 => by
    have := next_name h hs
    rw [nameB_low (by omega)] at this; cases this
  cases h1 : nextR a c with
  | none =>
    cases h2 : nextR b c with
    | none => simp [orE]
    | some t =>
      have := nz hb t h2
      have hne : (⟨#[]⟩ : ByteArray) ≠ t := by rintro rfl; exact this rfl
      simp [orE, hne]
  | some s =>
    cases h2 : nextR b c with
    | none =>
      have := nz ha s h1
      have hne : s ≠ (⟨#[]⟩ : ByteArray) := by rintro rfl; exact this rfl
      simp [orE, hne]
    | some t => by_cases e : s = t <;> simp [orE, e]
theorem leaf_first {rs : List Rul} {p : ByteArray} (h : longer rs p = false) : nextR rs (firstW p) = nextR rs p := next_leaf h (firstW_begins p)
theorem sameP_leaf {a b : List Rul} {f : Nat} {p : ByteArray} (h1 : longer a p = false) (h2 : longer b p = false) : sameP a b f p = decide (nextR a p = nextR b p) := by
  cases f with
  | zero => rfl
  | succ f => rw [sameP, if_pos ⟨h1, h2⟩]
theorem sameP_deep {a b : List Rul} {f : Nat} {p : ByteArray} (h : longer a p = true ∨ longer b p = true) : sameP a b (f + 1) p = (List.range 10).all (fun d => sameP a b f (p ++ dgt d)) := by
  rw [sameP, if_neg]
  rintro ⟨h1, h2⟩
  rcases h with h | h
  · rw [h1] at h; cases h
  · rw [h2] at h; cases h
theorem all_step {f : Nat → Bool} {k : Nat} (h : (List.range k).all f = true) (hk : f k = true) : (List.range (k + 1)).all f = true := by
  rw [List.range_succ, List.all_append, h]; simp [hk]
theorem all_stop {f : Nat → Bool} {k n : Nat} (hk : k < n) (h : f k = false) : (List.range n).all f = false := by
  rw [List.all_eq_false]; exact ⟨k, List.mem_range.2 hk, by simp [h]⟩

set_option maxRecDepth 100000 in
set_option maxHeartbeats 1600000 in
theorem spec_same (v u : Value) (a b : List Rul) (ha : rv a = true) (hb : rv b = true) : ∀ (f : Nat) (p : ByteArray) (w : World), Rt w v a → Rt w u b → preB p = true → p.size + f = 7 →
    Calls Try.prog 65 #[v, u, .string p] w fun e w' => e = .returned (.bool (sameP a b f p)) ∧ Below w.heap.size w w' := by
  intro f
  induction f with
  | zero =>
    intro p w h1 h2 hp hf
    have hla : longer a p = false := by cases h : longer a p with | false => rfl | true => have := longer_size (rv_parts ha) h; omega
    have hlb : longer b p = false := by cases h : longer b p with | false => rfl | true => have := longer_size (rv_parts hb) h; omega
    have hps : p.size ≤ maxLen := by unfold maxLen; omega
    have H1 := Lib.hid (spec_deeper v a p w h1 (rv_szr ha) hps)
    have HA := Lib.hid h1
    have HB := Lib.hid h2
    rw [hla] at H1
    go_enter Try.func65, Try.ntmps65
    go_wp2_with fail
    refine H1.out.mono ?_
    rintro e w1 ⟨rfl, hb1⟩
    have Hb1 := Lib.hid hb1
    have H2 := spec_deeper u b p w1 (HB.out.below Hb1.out) (rv_szr hb) hps
    rw [hlb] at H2
    have H2 := Lib.hid H2
    go_wp2_with fail
    refine H2.out.mono ?_
    rintro e w2 ⟨rfl, hb2⟩
    have Hb2 := Lib.hid (below_trans' Hb1.out hb2)
    have Hres := Lib.hid (sameP_leaf (f := 0) hla hlb)
    have Hsame := Lib.hid (orE_same (c := p) ha hb)
    have H3 := Lib.hid (spec_next v a p w2 (HA.out.below Hb2.out) (rv_szr ha) hps)
    clear H1 H2 hb1 hb2 h1 h2
    go_wp2_with fail
    refine H3.out.mono ?_
    rintro e w3 ⟨rfl, hb3⟩
    have Hb3 := Lib.hid (below_trans' Hb2.out hb3)
    have H4 := Lib.hid (spec_next u b p w3 (HB.out.below Hb3.out) (rv_szr hb) hps)
    clear H3 hb3
    go_wp2_with fail
    refine H4.out.mono ?_
    rintro e w4 ⟨rfl, hb4⟩
    go_wp2_with fail
    go_ret
    exact ⟨ret_bool (by rw [Hres.out, ← Hsame.out]), below_trans' Hb3.out hb4⟩
  | succ f ih =>
    intro p w h1 h2 hp hf
    cases hla : longer a p with
    | true =>
      have hps : p.size ≤ maxLen := by unfold maxLen; omega
      have H1 := Lib.hid (spec_deeper v a p w h1 (rv_szr ha) hps)
      have HA := Lib.hid h1
      have HB := Lib.hid h2
      rw [hla] at H1
      have Hres := Lib.hid (sameP_deep (f := f) (.inl hla : longer a p = true ∨ longer b p = true))
      go_enter Try.func65, Try.ntmps65
      go_wp2_with fail
      refine H1.out.mono ?_
      rintro e w1 ⟨rfl, hb1⟩
      have Hb1 := Lib.hid hb1
      have Hb2 := Hb1
      clear H1 hb1 h1 h2 hla
      go_wp2_with fail
      go_loopw [7] (fun i wr => ∃ k : Nat, k ≤ 10 ∧ i = .int .i64 k ∧ Hid (Below w.heap.size w wr) ∧ Hid ((List.range k).all (fun d => sameP a b f (p ++ dgt d)) = true)) (fun i _ => 10 - (intOf i).toNat)
      case atStart => exact ⟨0, Nat.zero_le _, rfl, Hb2, Lib.hid rfl⟩
      case round =>
        obtain ⟨k, hk, rfl, Hb, Hall⟩ := hrel
        by_cases hlt : k < 10
        · have Hd := Lib.hid (dec_any k wr (by omega))
          have hsz : (p ++ dgt k).size = p.size + 1 := by rw [size_app, size_dgt]
          have hp6 : p.size < 7 := by omega
          have hg1 : (dgt k).size = 1 := rfl
          go_wp2_with fail
          refine Hd.out.mono ?_
          rintro e w3 ⟨rfl, hb3⟩
          have Hb3 := Lib.hid (below_trans' Hb.out hb3)
          have Hr := Lib.hid (ih (p ++ dgt k) w3 (HA.out.below Hb3.out) (HB.out.below Hb3.out) (preB_app hp hp6 hlt) (by omega))
          clear Hd hb3
          cases hs : sameP a b f (p ++ dgt k) with
          | true =>
            rw [hs] at Hr
            have Hall2 := Lib.hid (all_step Hall.out hs)
            clear hs
            go_wp2_with fail
            refine Hr.out.mono ?_
            rintro e w4 ⟨rfl, hb4⟩
            have Hb4 := Lib.hid (below_trans' Hb3.out hb4)
            go_wp2_with fail
            go_roundw
            case rel => exact ⟨k + 1, by omega, by go_num, Hb4, Hall2⟩
            case measure => simp [intOf]; omega
          | false =>
            rw [hs] at Hr
            have Hno := Lib.hid (all_stop (f := fun d => sameP a b f (p ++ dgt d)) hlt hs)
            clear hs
            go_wp2_with fail
            refine Hr.out.mono ?_
            rintro e w4 ⟨rfl, hb4⟩
            go_wp2_with fail
            go_ret
            exact ⟨ret_bool (by rw [Hres.out, Hno.out]), below_trans' Hb3.out hb4⟩
        · have hk' : k = 10 := by omega
          subst hk'
          go_wp2_with fail
          go_ret
          exact ⟨ret_bool (by rw [Hres.out, Hall.out]), Hb.out⟩
    | false =>
      cases hlb : longer b p with
      | false =>
        have hps : p.size ≤ maxLen := by unfold maxLen; omega
        have H1 := Lib.hid (spec_deeper v a p w h1 (rv_szr ha) hps)
        have HA := Lib.hid h1
        have HB := Lib.hid h2
        rw [hla] at H1
        go_enter Try.func65, Try.ntmps65
        go_wp2_with fail
        refine H1.out.mono ?_
        rintro e w1 ⟨rfl, hb1⟩
        have Hb1 := Lib.hid hb1
        have H2 := spec_deeper u b p w1 (HB.out.below Hb1.out) (rv_szr hb) hps
        rw [hlb] at H2
        have H2 := Lib.hid H2
        go_wp2_with fail
        refine H2.out.mono ?_
        rintro e w2 ⟨rfl, hb2⟩
        have Hb2 := Lib.hid (below_trans' Hb1.out hb2)
        have Hres := Lib.hid (sameP_leaf (f := f + 1) hla hlb)
        have Hsame := Lib.hid (orE_same (c := p) ha hb)
        have H3 := Lib.hid (spec_next v a p w2 (HA.out.below Hb2.out) (rv_szr ha) hps)
        clear H1 H2 hb1 hb2 h1 h2
        go_wp2_with fail
        refine H3.out.mono ?_
        rintro e w3 ⟨rfl, hb3⟩
        have Hb3 := Lib.hid (below_trans' Hb2.out hb3)
        have H4 := Lib.hid (spec_next u b p w3 (HB.out.below Hb3.out) (rv_szr hb) hps)
        clear H3 hb3
        go_wp2_with fail
        refine H4.out.mono ?_
        rintro e w4 ⟨rfl, hb4⟩
        go_wp2_with fail
        go_ret
        exact ⟨ret_bool (by rw [Hres.out, ← Hsame.out]), below_trans' Hb3.out hb4⟩
      | true =>
        have hps : p.size ≤ maxLen := by unfold maxLen; omega
        have H1 := Lib.hid (spec_deeper v a p w h1 (rv_szr ha) hps)
        have HA := Lib.hid h1
        have HB := Lib.hid h2
        rw [hla] at H1
        have Hres := Lib.hid (sameP_deep (f := f) (.inr hlb : longer a p = true ∨ longer b p = true))
        go_enter Try.func65, Try.ntmps65
        go_wp2_with fail
        refine H1.out.mono ?_
        rintro e w1 ⟨rfl, hb1⟩
        have Hb1 := Lib.hid hb1
        have H2 := spec_deeper u b p w1 (HB.out.below Hb1.out) (rv_szr hb) hps
        rw [hlb] at H2
        have H2 := Lib.hid H2
        go_wp2_with fail
        refine H2.out.mono ?_
        rintro e w2 ⟨rfl, hb2⟩
        have Hb2 := Lib.hid (below_trans' Hb1.out hb2)
        clear H1 H2 hb1 hb2 h1 h2 hla hlb
        go_wp2_with fail
        go_loopw [7] (fun i wr => ∃ k : Nat, k ≤ 10 ∧ i = .int .i64 k ∧ Hid (Below w.heap.size w wr) ∧ Hid ((List.range k).all (fun d => sameP a b f (p ++ dgt d)) = true)) (fun i _ => 10 - (intOf i).toNat)
        case atStart => exact ⟨0, Nat.zero_le _, rfl, Hb2, Lib.hid rfl⟩
        case round =>
          obtain ⟨k, hk, rfl, Hb, Hall⟩ := hrel
          by_cases hlt : k < 10
          · have Hd := Lib.hid (dec_any k wr (by omega))
            have hsz : (p ++ dgt k).size = p.size + 1 := by rw [size_app, size_dgt]
            have hp6 : p.size < 7 := by omega
            have hg1 : (dgt k).size = 1 := rfl
            go_wp2_with fail
            refine Hd.out.mono ?_
            rintro e w3 ⟨rfl, hb3⟩
            have Hb3 := Lib.hid (below_trans' Hb.out hb3)
            have Hr := Lib.hid (ih (p ++ dgt k) w3 (HA.out.below Hb3.out) (HB.out.below Hb3.out) (preB_app hp hp6 hlt) (by omega))
            clear Hd hb3
            cases hs : sameP a b f (p ++ dgt k) with
            | true =>
              rw [hs] at Hr
              have Hall2 := Lib.hid (all_step Hall.out hs)
              clear hs
              go_wp2_with fail
              refine Hr.out.mono ?_
              rintro e w4 ⟨rfl, hb4⟩
              have Hb4 := Lib.hid (below_trans' Hb3.out hb4)
              go_wp2_with fail
              go_roundw
              case rel => exact ⟨k + 1, by omega, by go_num, Hb4, Hall2⟩
              case measure => simp [intOf]; omega
            | false =>
              rw [hs] at Hr
              have Hno := Lib.hid (all_stop (f := fun d => sameP a b f (p ++ dgt d)) hlt hs)
              clear hs
              go_wp2_with fail
              refine Hr.out.mono ?_
              rintro e w4 ⟨rfl, hb4⟩
              go_wp2_with fail
              go_ret
              exact ⟨ret_bool (by rw [Hres.out, Hno.out]), below_trans' Hb3.out hb4⟩
          · have hk' : k = 10 := by omega
            subst hk'
            go_wp2_with fail
            go_ret
            exact ⟨ret_bool (by rw [Hres.out, Hall.out]), Hb.out⟩

set_option maxRecDepth 100000 in
set_option maxHeartbeats 1600000 in
theorem impl_same (v u : Value) (a b : List Rul) (ha : rv a = true) (hb : rv b = true) : ∀ (f : Nat) (p : ByteArray) (w : World), Rt w v a → Rt w u b → preB p = true → p.size + f = 7 →
    Calls Try.prog 62 #[v, u, .string p] w fun e w' => e = .returned (.bool (sameP a b f p)) ∧ Below w.heap.size w w' := by
  intro f
  induction f with
  | zero =>
    intro p w h1 h2 hp hf
    have hla : longer a p = false := by cases h : longer a p with | false => rfl | true => have := longer_size (rv_parts ha) h; omega
    have hlb : longer b p = false := by cases h : longer b p with | false => rfl | true => have := longer_size (rv_parts hb) h; omega
    have hps : p.size ≤ maxLen := by unfold maxLen; omega
    have H1 := Lib.hid (impl_longer v a p w h1 (rv_szr ha) hps)
    have HA := Lib.hid h1
    have HB := Lib.hid h2
    rw [hla] at H1
    go_enter Try.func62, Try.ntmps62
    go_wp2_with fail
    refine H1.out.mono ?_
    rintro e w1 ⟨rfl, hb1⟩
    have Hb1 := Lib.hid hb1
    have H2 := impl_longer u b p w1 (HB.out.below Hb1.out) (rv_szr hb) hps
    rw [hlb] at H2
    have H2 := Lib.hid H2
    go_wp2_with fail
    refine H2.out.mono ?_
    rintro e w2 ⟨rfl, hb2⟩
    have Hb2 := Lib.hid (below_trans' Hb1.out hb2)
    have Hres := Lib.hid (sameP_leaf (f := 0) hla hlb)
    have Hsame := Lib.hid (orE_same (c := firstW p) ha hb)
    have Hla := Lib.hid (leaf_first hla)
    have Hlb := Lib.hid (leaf_first hlb)
    have hp7 : p.size ≤ 7 := (preB_parts hp).1
    have hfw : (firstW p).size ≤ maxLen := by have := (codeB_parts (firstW_code hp)).1; unfold maxLen; omega
    have H3 := Lib.hid (fun w => first_any p w hp7)
    clear H1 H2 hb1 hb2 h1 h2
    go_wp2_with fail
    refine (H3.out _).mono ?_
    rintro e w' ⟨rfl, rfl⟩
    have H4 := Lib.hid (impl_next v a (firstW p) w2 (HA.out.below Hb2.out) (rv_szr ha) hfw)
    go_wp2_with fail
    refine H4.out.mono ?_
    rintro e w3 ⟨rfl, hb3⟩
    have Hb3 := Lib.hid (below_trans' Hb2.out hb3)
    clear H4 hb3
    go_wp2_with fail
    refine (H3.out _).mono ?_
    rintro e w' ⟨rfl, rfl⟩
    have H5 := Lib.hid (impl_next u b (firstW p) w3 (HB.out.below Hb3.out) (rv_szr hb) hfw)
    go_wp2_with fail
    refine H5.out.mono ?_
    rintro e w4 ⟨rfl, hb4⟩
    by_cases hq : nextR a (firstW p) = nextR b (firstW p)
    · have Hq : Hid (sameP a b (0) p = true) := Lib.hid (by rw [Hres.out, ← Hla.out, ← Hlb.out]; exact decide_eq_true hq)
      have t1 : ((orE (nextR a (firstW p))).toList == (orE (nextR b (firstW p))).toList) = true := by rw [Hsame.out]; exact decide_eq_true hq
      have t2 : ((nextR a (firstW p)).isSome == (nextR b (firstW p)).isSome) = true := by rw [hq]; simp
      clear hq
      generalize nextR a (firstW p) = na at *
      generalize nextR b (firstW p) = nb at *
      go_wp2_with fail
      go_ret
      exact ⟨ret_bool Hq.out.symm, below_trans' Hb3.out hb4⟩
    · have Hq : Hid (sameP a b (0) p = false) := Lib.hid (by rw [Hres.out, ← Hla.out, ← Hlb.out]; exact decide_eq_false hq)
      have t1 : ((orE (nextR a (firstW p))).toList == (orE (nextR b (firstW p))).toList) = false := by rw [Hsame.out]; exact decide_eq_false hq
      clear hq
      generalize nextR a (firstW p) = na at *
      generalize nextR b (firstW p) = nb at *
      go_wp2_with fail
      go_ret
      exact ⟨ret_bool Hq.out.symm, below_trans' Hb3.out hb4⟩
  | succ f ih =>
    intro p w h1 h2 hp hf
    cases hla : longer a p with
    | true =>
      have hps : p.size ≤ maxLen := by unfold maxLen; omega
      have H1 := Lib.hid (impl_longer v a p w h1 (rv_szr ha) hps)
      have HA := Lib.hid h1
      have HB := Lib.hid h2
      rw [hla] at H1
      have Hres := Lib.hid (sameP_deep (f := f) (.inl hla : longer a p = true ∨ longer b p = true))
      go_enter Try.func62, Try.ntmps62
      go_wp2_with fail
      refine H1.out.mono ?_
      rintro e w1 ⟨rfl, hb1⟩
      have Hb1 := Lib.hid hb1
      have Hb2 := Hb1
      clear H1 hb1 h1 h2 hla
      go_wp2_with fail
      go_loopw [44] (fun i wr => ∃ k : Nat, k ≤ 10 ∧ i = .int .i64 k ∧ Hid (Below w.heap.size w wr) ∧ Hid ((List.range k).all (fun d => sameP a b f (p ++ dgt d)) = true)) (fun i _ => 10 - (intOf i).toNat)
      case atStart => exact ⟨0, Nat.zero_le _, rfl, Hb2, Lib.hid rfl⟩
      case round =>
        obtain ⟨k, hk, rfl, Hb, Hall⟩ := hrel
        by_cases hlt : k < 10
        · have Hd := Lib.hid (padded_any k wr (by omega))
          have hsz : (p ++ dgt k).size = p.size + 1 := by rw [size_app, size_dgt]
          have hp6 : p.size < 7 := by omega
          have hg1 : (dgt k).size = 1 := rfl
          go_wp2_with fail
          refine Hd.out.mono ?_
          rintro e w3 ⟨rfl, hb3⟩
          have Hb3 := Lib.hid (below_trans' Hb.out hb3)
          have Hr := Lib.hid (ih (p ++ dgt k) w3 (HA.out.below Hb3.out) (HB.out.below Hb3.out) (preB_app hp hp6 hlt) (by omega))
          clear Hd hb3
          cases hs : sameP a b f (p ++ dgt k) with
          | true =>
            rw [hs] at Hr
            have Hall2 := Lib.hid (all_step Hall.out hs)
            clear hs
            go_wp2_with fail
            refine Hr.out.mono ?_
            rintro e w4 ⟨rfl, hb4⟩
            have Hb4 := Lib.hid (below_trans' Hb3.out hb4)
            go_wp2_with fail
            go_roundw
            case rel => exact ⟨k + 1, by omega, by go_num, Hb4, Hall2⟩
            case measure => simp [intOf]; omega
          | false =>
            rw [hs] at Hr
            have Hno := Lib.hid (all_stop (f := fun d => sameP a b f (p ++ dgt d)) hlt hs)
            clear hs
            go_wp2_with fail
            refine Hr.out.mono ?_
            rintro e w4 ⟨rfl, hb4⟩
            go_wp2_with fail
            go_ret
            exact ⟨ret_bool (by rw [Hres.out, Hno.out]), below_trans' Hb3.out hb4⟩
        · have hk' : k = 10 := by omega
          subst hk'
          go_wp2_with fail
          go_ret
          exact ⟨ret_bool (by rw [Hres.out, Hall.out]), Hb.out⟩
    | false =>
      cases hlb : longer b p with
      | false =>
        have hps : p.size ≤ maxLen := by unfold maxLen; omega
        have H1 := Lib.hid (impl_longer v a p w h1 (rv_szr ha) hps)
        have HA := Lib.hid h1
        have HB := Lib.hid h2
        rw [hla] at H1
        go_enter Try.func62, Try.ntmps62
        go_wp2_with fail
        refine H1.out.mono ?_
        rintro e w1 ⟨rfl, hb1⟩
        have Hb1 := Lib.hid hb1
        have H2 := impl_longer u b p w1 (HB.out.below Hb1.out) (rv_szr hb) hps
        rw [hlb] at H2
        have H2 := Lib.hid H2
        go_wp2_with fail
        refine H2.out.mono ?_
        rintro e w2 ⟨rfl, hb2⟩
        have Hb2 := Lib.hid (below_trans' Hb1.out hb2)
        have Hres := Lib.hid (sameP_leaf (f := f + 1) hla hlb)
        have Hsame := Lib.hid (orE_same (c := firstW p) ha hb)
        have Hla := Lib.hid (leaf_first hla)
        have Hlb := Lib.hid (leaf_first hlb)
        have hp7 : p.size ≤ 7 := (preB_parts hp).1
        have hfw : (firstW p).size ≤ maxLen := by have := (codeB_parts (firstW_code hp)).1; unfold maxLen; omega
        have H3 := Lib.hid (fun w => first_any p w hp7)
        clear H1 H2 hb1 hb2 h1 h2
        go_wp2_with fail
        refine (H3.out _).mono ?_
        rintro e w' ⟨rfl, rfl⟩
        have H4 := Lib.hid (impl_next v a (firstW p) w2 (HA.out.below Hb2.out) (rv_szr ha) hfw)
        go_wp2_with fail
        refine H4.out.mono ?_
        rintro e w3 ⟨rfl, hb3⟩
        have Hb3 := Lib.hid (below_trans' Hb2.out hb3)
        clear H4 hb3
        go_wp2_with fail
        refine (H3.out _).mono ?_
        rintro e w' ⟨rfl, rfl⟩
        have H5 := Lib.hid (impl_next u b (firstW p) w3 (HB.out.below Hb3.out) (rv_szr hb) hfw)
        go_wp2_with fail
        refine H5.out.mono ?_
        rintro e w4 ⟨rfl, hb4⟩
        by_cases hq : nextR a (firstW p) = nextR b (firstW p)
        · have Hq : Hid (sameP a b (f + 1) p = true) := Lib.hid (by rw [Hres.out, ← Hla.out, ← Hlb.out]; exact decide_eq_true hq)
          have t1 : ((orE (nextR a (firstW p))).toList == (orE (nextR b (firstW p))).toList) = true := by rw [Hsame.out]; exact decide_eq_true hq
          have t2 : ((nextR a (firstW p)).isSome == (nextR b (firstW p)).isSome) = true := by rw [hq]; simp
          clear hq
          generalize nextR a (firstW p) = na at *
          generalize nextR b (firstW p) = nb at *
          go_wp2_with fail
          go_ret
          exact ⟨ret_bool Hq.out.symm, below_trans' Hb3.out hb4⟩
        · have Hq : Hid (sameP a b (f + 1) p = false) := Lib.hid (by rw [Hres.out, ← Hla.out, ← Hlb.out]; exact decide_eq_false hq)
          have t1 : ((orE (nextR a (firstW p))).toList == (orE (nextR b (firstW p))).toList) = false := by rw [Hsame.out]; exact decide_eq_false hq
          clear hq
          generalize nextR a (firstW p) = na at *
          generalize nextR b (firstW p) = nb at *
          go_wp2_with fail
          go_ret
          exact ⟨ret_bool Hq.out.symm, below_trans' Hb3.out hb4⟩
      | true =>
        have hps : p.size ≤ maxLen := by unfold maxLen; omega
        have H1 := Lib.hid (impl_longer v a p w h1 (rv_szr ha) hps)
        have HA := Lib.hid h1
        have HB := Lib.hid h2
        rw [hla] at H1
        have Hres := Lib.hid (sameP_deep (f := f) (.inr hlb : longer a p = true ∨ longer b p = true))
        go_enter Try.func62, Try.ntmps62
        go_wp2_with fail
        refine H1.out.mono ?_
        rintro e w1 ⟨rfl, hb1⟩
        have Hb1 := Lib.hid hb1
        have H2 := impl_longer u b p w1 (HB.out.below Hb1.out) (rv_szr hb) hps
        rw [hlb] at H2
        have H2 := Lib.hid H2
        go_wp2_with fail
        refine H2.out.mono ?_
        rintro e w2 ⟨rfl, hb2⟩
        have Hb2 := Lib.hid (below_trans' Hb1.out hb2)
        clear H1 H2 hb1 hb2 h1 h2 hla hlb
        go_wp2_with fail
        go_loopw [44] (fun i wr => ∃ k : Nat, k ≤ 10 ∧ i = .int .i64 k ∧ Hid (Below w.heap.size w wr) ∧ Hid ((List.range k).all (fun d => sameP a b f (p ++ dgt d)) = true)) (fun i _ => 10 - (intOf i).toNat)
        case atStart => exact ⟨0, Nat.zero_le _, rfl, Hb2, Lib.hid rfl⟩
        case round =>
          obtain ⟨k, hk, rfl, Hb, Hall⟩ := hrel
          by_cases hlt : k < 10
          · have Hd := Lib.hid (padded_any k wr (by omega))
            have hsz : (p ++ dgt k).size = p.size + 1 := by rw [size_app, size_dgt]
            have hp6 : p.size < 7 := by omega
            have hg1 : (dgt k).size = 1 := rfl
            go_wp2_with fail
            refine Hd.out.mono ?_
            rintro e w3 ⟨rfl, hb3⟩
            have Hb3 := Lib.hid (below_trans' Hb.out hb3)
            have Hr := Lib.hid (ih (p ++ dgt k) w3 (HA.out.below Hb3.out) (HB.out.below Hb3.out) (preB_app hp hp6 hlt) (by omega))
            clear Hd hb3
            cases hs : sameP a b f (p ++ dgt k) with
            | true =>
              rw [hs] at Hr
              have Hall2 := Lib.hid (all_step Hall.out hs)
              clear hs
              go_wp2_with fail
              refine Hr.out.mono ?_
              rintro e w4 ⟨rfl, hb4⟩
              have Hb4 := Lib.hid (below_trans' Hb3.out hb4)
              go_wp2_with fail
              go_roundw
              case rel => exact ⟨k + 1, by omega, by go_num, Hb4, Hall2⟩
              case measure => simp [intOf]; omega
            | false =>
              rw [hs] at Hr
              have Hno := Lib.hid (all_stop (f := fun d => sameP a b f (p ++ dgt d)) hlt hs)
              clear hs
              go_wp2_with fail
              refine Hr.out.mono ?_
              rintro e w4 ⟨rfl, hb4⟩
              go_wp2_with fail
              go_ret
              exact ⟨ret_bool (by rw [Hres.out, Hno.out]), below_trans' Hb3.out hb4⟩
          · have hk' : k = 10 := by omega
            subst hk'
            go_wp2_with fail
            go_ret
            exact ⟨ret_bool (by rw [Hres.out, Hall.out]), Hb.out⟩

set_option maxRecDepth 100000 in
set_option maxHeartbeats 800000 in
theorem spec_sameR (v u : Value) (a b : List Rul) (w : World) (h1 : Rt w v a) (h2 : Rt w u b) (hs1 : Szr a) (hs2 : Szr b) :
    Calls Try.prog 32 #[v, u] w fun e w' => e = .returned (.bool (sameR a b)) ∧ Below w.heap.size w w' := by
  have H1 := Lib.hid (spec_rv v a w h1 hs1)
  have HA := Lib.hid h1
  have HB := Lib.hid h2
  have Hs2 := Lib.hid hs2
  clear h1 h2 hs1 hs2
  go_enter Try.func32, Try.ntmps32
  go_wp2_with fail
  refine H1.out.mono ?_
  rintro e w1 ⟨rfl, hb1⟩
  have Hb1 := Lib.hid hb1
  cases ha : rv a with
  | false =>
    have Hno : Hid (sameR a b = false) := Lib.hid (by simp [sameR, ha])
    clear ha
    go_wp2_with fail
    go_ret
    exact ⟨ret_bool Hno.out.symm, Hb1.out⟩
  | true =>
    have H2 := Lib.hid (spec_rv u b w1 (HB.out.below Hb1.out) Hs2.out)
    have Ha := Lib.hid ha
    clear ha H1 hb1
    go_wp2_with fail
    refine H2.out.mono ?_
    rintro e w2 ⟨rfl, hb2⟩
    have Hb2 := Lib.hid (below_trans' Hb1.out hb2)
    cases hb : rv b with
    | false =>
      have Hno : Hid (sameR a b = false) := Lib.hid (by simp [sameR, hb])
      clear hb
      go_wp2_with fail
      go_ret
      exact ⟨ret_bool Hno.out.symm, Hb2.out⟩
    | true =>
      have Hyes : Hid (sameR a b = sameP a b 7 ⟨#[]⟩) := Lib.hid (by simp [sameR, hb, Ha.out, emp])
      have H3 := Lib.hid (spec_same v u a b Ha.out hb 7 ⟨#[]⟩ w2 (HA.out.below Hb2.out) (HB.out.below Hb2.out) preB_emp rfl)
      clear hb H2 hb2
      go_wp2_with fail
      refine H3.out.mono ?_
      rintro e w3 ⟨rfl, hb3⟩
      go_wp2_with fail
      go_ret
      exact ⟨ret_bool Hyes.out.symm, below_trans' Hb2.out hb3⟩
set_option maxRecDepth 100000 in
set_option maxHeartbeats 800000 in
theorem impl_sameR (v u : Value) (a b : List Rul) (w : World) (h1 : Rt w v a) (h2 : Rt w u b) (hs1 : Szr a) (hs2 : Szr b) :
    Calls Try.prog 27 #[v, u] w fun e w' => e = .returned (.bool (sameR a b)) ∧ Below w.heap.size w w' := by
  have H1 := Lib.hid (impl_rv v a w h1 hs1)
  have HA := Lib.hid h1
  have HB := Lib.hid h2
  have Hs2 := Lib.hid hs2
  clear h1 h2 hs1 hs2
  go_enter Try.func27, Try.ntmps27
  go_wp2_with fail
  refine H1.out.mono ?_
  rintro e w1 ⟨rfl, hb1⟩
  have Hb1 := Lib.hid hb1
  cases ha : rv a with
  | false =>
    have Hno : Hid (sameR a b = false) := Lib.hid (by simp [sameR, ha])
    clear ha
    go_wp2_with fail
    go_ret
    exact ⟨ret_bool Hno.out.symm, Hb1.out⟩
  | true =>
    have H2 := Lib.hid (impl_rv u b w1 (HB.out.below Hb1.out) Hs2.out)
    have Ha := Lib.hid ha
    clear ha H1 hb1
    go_wp2_with fail
    refine H2.out.mono ?_
    rintro e w2 ⟨rfl, hb2⟩
    have Hb2 := Lib.hid (below_trans' Hb1.out hb2)
    cases hb : rv b with
    | false =>
      have Hno : Hid (sameR a b = false) := Lib.hid (by simp [sameR, hb])
      clear hb
      go_wp2_with fail
      go_ret
      exact ⟨ret_bool Hno.out.symm, Hb2.out⟩
    | true =>
      have Hyes : Hid (sameR a b = sameP a b 7 ⟨#[]⟩) := Lib.hid (by simp [sameR, hb, Ha.out, emp])
      have H3 := Lib.hid (impl_same v u a b Ha.out hb 7 ⟨#[]⟩ w2 (HA.out.below Hb2.out) (HB.out.below Hb2.out) preB_emp rfl)
      clear hb H2 hb2
      go_wp2_with fail
      refine H3.out.mono ?_
      rintro e w3 ⟨rfl, hb3⟩
      go_wp2_with fail
      go_ret
      exact ⟨ret_bool Hyes.out.symm, below_trans' Hb2.out hb3⟩

end Go.Proofs.Ytkfbgoahppfelaa
