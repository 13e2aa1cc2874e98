
/- The walk of the law on the trays of each beginning. -/
import Derived.Test.YtaadjjadpacclaaTyLawP
import Derived.Test.YtaadjjadpacclaaTySplit
namespace Go.Proofs.Ytaadjjadpacclaa
open Go.RowKit
set_option linter.unusedVariables false

theorem digs_pre {c : ByteArray} (d : Nat) (h : digs c = true) : digs (pre d c) = true := by
  unfold digs at h ⊢
  rw [pre_data]
  rw [List.all_eq_true] at h ⊢
  exact fun x hx => h x (List.mem_of_mem_take hx)
/-- What the law asks of the letters. -/
structure Fpt (s d : Nat) (xs : List Ltr) (ts : List (List Ltr)) : Prop where
  num : ts.length = (fillT s d xs).length
  bv : bv xs = true
theorem fpt_facts {xs : List Ltr} {size dg : Int} (h : fok xs size dg = true) : ∃ s d : Nat, size = (s : Int) ∧ dg = (d : Int) ∧ 1 ≤ s ∧ s ≤ 20 ∧ d ≤ 7 ∧ Fpt s d xs (fbp xs size dg) := by
  obtain ⟨h1, h2, h3⟩ := fok_parts h
  obtain ⟨s, hs⟩ : ∃ s : Nat, size = (s : Int) := ⟨size.toNat, by omega⟩
  obtain ⟨d, hd⟩ : ∃ d : Nat, dg = (d : Int) := ⟨dg.toNat, by omega⟩
  subst hs hd
  refine ⟨s, d, rfl, rfl, by omega, by omega, by omega, ?_⟩
  rw [fbp_yes h]
  exact ⟨rfl, h1⟩
theorem pre_size {d : Nat} {c : ByteArray} (h : d ≤ c.size) : (pre d c).size = d := by
  unfold pre
  rw [ByteArray.size_extract]
  omega
theorem cntB_pre {d : Nat} {c : ByteArray} (xs : List Ltr) (h : d ≤ c.size) : cntB (pre d c) xs = cntP d xs (pre d c) := by
  rw [cntB, cntP, pre_size h]
/-- The beginning that came last. -/
def lastO (k : Nat) (l : ByteArray) : Option ByteArray := if k = 0 then none else some l
theorem needs_at {s d : Nat} {cnt : ByteArray → Nat} {o : Option ByteArray} {xs : List Ltr} {k : Nat} {x : Ltr} (h : xs[k]? = some x) : needs s d cnt o (xs.drop k) = (if o = some (pre d x.2) then 0 else ceil (cnt (pre d x.2)) s) + needs s d cnt (lastO (k + 1) (pre d x.2)) (xs.drop (k + 1)) := by
  obtain ⟨hk, e⟩ := List.getElem?_eq_some_iff.1 h
  rw [List.drop_eq_getElem_cons hk, e, needs]
  rfl

set_option maxRecDepth 100000 in
set_option maxHeartbeats 3200000 in
theorem law_FnPrefixTrays (A : Option Addr) (c : Nat) (bs : List Int) (w : World) (h0 : Coded0 w A bs c) :
    Calls Try.prog 4 #[.slice A bs.length c] w fun e w' => e = .returned (.bool true) ∧ Below w.heap.size w w' := by
  by_cases hbig : 1048576 < bs.length
  · go_enter Try.func4, Try.ntmps4
    go_wp2_with fail
    go_ret
    exact ⟨rfl, Below.refl _ _⟩
  have Hdr := Lib.hid (draw_fbp A c bs w (h0.coded hbig))
  clear h0
  go_enter Try.func4, Try.ntmps4
  go_wp2_with fail
  refine Hdr.out.mono ?_
  rintro e w1 ⟨v, xs, size, dg, rfl, h, hl, hs, hb⟩
  have Hs := Lib.hid hs
  have Hb := Lib.hid hb
  have H := Lib.hid h
  obtain ⟨ts, hts⟩ : ∃ ts, ts = fbp xs size dg := ⟨_, rfl⟩
  obtain ⟨B, hB⟩ : ∃ B, B = fok xs size dg := ⟨_, rfl⟩
  have H1 := Lib.hid (impl_fbp v xs size dg w1 h hs)
  rw [← hts, ← hB] at H1
  have H2 : Hid (∀ W, Below w1.heap.size w1 W → Calls Try.prog 7 #[v, .int .i64 size, .int .i64 dg] W fun e w' => ∃ u, e = .returned (.tuple #[u, .bool B]) ∧ OLL w' W.heap.size w'.heap.size u ts ∧ Below W.heap.size W w') := Lib.hid fun W hW => by rw [hts, hB]; exact spec_fbp v xs size dg W (h.below hW) hs
  have HF : Hid (B = true → ∃ s d : Nat, size = (s : Int) ∧ dg = (d : Int) ∧ 1 ≤ s ∧ s ≤ 20 ∧ d ≤ 7 ∧ Fpt s d xs ts) := Lib.hid fun hh => by rw [hts]; exact fpt_facts (hB.symm.trans hh)
  have t2 : (B != B) = false := by simp
  have t3 : (B == B) = true := by simp
  clear hs hb h Hdr hts hB
  go_wp2_with fail
  refine H1.out.mono ?_
  rintro e w2 ⟨u, rfl, ho, hb2⟩
  have Hb2 := Lib.hid hb2
  have H3 := Lib.hid (H2.out w2 hb2)
  have Ho := Lib.hid ho.lts
  clear H1 hb2 ho
  go_wp2_with fail
  refine H3.out.mono ?_
  rintro e w3 ⟨u2, rfl, ho2, hb3⟩
  replace Hb2 := Lib.hid (below_trans' Hb2.out hb3)
  replace Ho := Lib.hid (LtS.below Ho.out hb3)
  have Ho2 := Lib.hid ho2.lts
  have Hc := soBins_any u u2 ts ts w3 Ho.out ho2.lts
  rw [decide_eq_true rfl] at Hc
  have Hc := Lib.hid Hc
  clear H2 H3 hb3 ho2
  go_wp2_with fail
  refine Hc.out.mono ?_
  rintro e w4 ⟨rfl, hb4⟩
  replace Hb2 := Lib.hid (below_trans' Hb2.out hb4)
  replace Ho := Lib.hid (LtS.below Ho.out hb4)
  replace Ho2 := Lib.hid (LtS.below Ho2.out hb4)
  clear Hc hb4
  cases B with
  | false =>
    have Hc := soBins_any u u2 ts ts w4 Ho.out Ho2.out
    rw [decide_eq_true rfl] at Hc
    have Hc := Lib.hid Hc
    go_wp2_with fail
    refine Hc.out.mono ?_
    rintro e w5 ⟨rfl, hb5⟩
    go_wp2_with fail
    go_ret
    exact ⟨rfl, below_trans' Hb.out (below_trans' Hb2.out hb5)⟩
  | true =>
    obtain ⟨s, d, rfl, rfl, hs1, hs20, hd7, hF⟩ := HF.out rfl
    have Hnum := Lib.hid hF.num
    have Hbv := Lib.hid hF.bv
    have hx60 := (bv_parts hF.bv).1
    have HVV : Hid (∀ x ∈ xs, x.2.size = 7) := Lib.hid fun x hx => codeB_size ((bv_parts hF.bv).2.1 x hx).1
    have HDD : Hid (∀ x ∈ xs, digs x.2 = true) := Lib.hid fun x hx => by
      have := ((bv_parts hF.bv).2.1 x hx).1
      simp only [codeB, Bool.and_eq_true] at this
      exact this.2
    have Hst := Lib.hid (sorted_any v xs w4 (H.out.below Hb2.out) Hs.out)
    clear hF HF
    go_wp2_with fail
    refine Hst.out.mono ?_
    rintro e w5 ⟨⟨r, rfl, hr⟩, hb5⟩
    replace Hb2 := Lib.hid (below_trans' Hb2.out hb5)
    replace Ho := Lib.hid (LtS.below Ho.out hb5)
    replace Ho2 := Lib.hid (LtS.below Ho2.out hb5)
    clear Hst hb5
    cases r with
    | false =>
      clear hr
      have Hc := soBins_any u u2 ts ts w5 Ho.out Ho2.out
      rw [decide_eq_true rfl] at Hc
      have Hc := Lib.hid Hc
      go_wp2_with fail
      refine Hc.out.mono ?_
      rintro e w6 ⟨rfl, hb6⟩
      go_wp2_with fail
      go_ret
      exact ⟨rfl, below_trans' Hb.out (below_trans' Hb2.out hb6)⟩
    | true =>
      obtain ⟨us, ⟨D, dc, hue, hDr, hd1, hd2⟩, hus⟩ := Ho.out
      subst hue
      unfold maxLen at hd2
      have Hul := Lib.hid hus.len
      obtain ⟨VA, vc, hve, hVr, hv1, hv2⟩ := H.out
      subst hve
      unfold maxLen at hv2
      have HVr := Lib.hid hVr
      have Hpt := Lib.hid (prefix_trays (size := s) (d := d) hs1 xs.length xs (Nat.le_refl _) (asc_contig (hr rfl) d))
      have d0 : (0 : Int) ≤ (d : Int) := by omega
      clear hDr hus Ho2 hr hVr
      go_wp2_with fail
      go_loopw [10, 11, 12] (fun n l i wr => ∃ (k N : Nat) (L : ByteArray), k ≤ xs.length ∧ N ≤ us.length ∧ n = .int .i64 N ∧ l = .string L ∧ i = .int .i64 k ∧ Hid (Below w1.heap.size w1 wr) ∧ Hid (N + needs s d (cntP d xs) (lastO k L) (xs.drop k) = us.length)) (fun _ _ i _ => xs.length - (intOf i).toNat)
      case atStart => exact ⟨0, 0, _, Nat.zero_le _, Nat.zero_le _, rfl, rfl, rfl, Hb2, Lib.hid (by rw [Hul.out, Hnum.out, ← Hpt.out, Nat.zero_add]; rfl)⟩
      case round =>
        obtain ⟨k, N, L, hk, hN, rfl, rfl, rfl, Hbr, Hn⟩ := hrel
        by_cases hlt : k < xs.length
        · obtain ⟨ad, x, hVa, hx, hcA, hcB⟩ := (HVr.out.below Hbr.out).two hlt
          subst hVa
          have hxm := List.mem_of_getElem? hx
          have hz := HVV.out x hxm
          have hdx : (d : Int) ≤ (x.2.size : Int) := by omega
          have hlt' : (k : Int) < (xs.length : Int) := by omega
          simp only [ltf] at hcA hcB
          obtain ⟨hd', hhd⟩ : ∃ q, q = pre d x.2 := ⟨_, rfl⟩
          have hhe : x.2.extract 0 d = hd' := hhd.symm
          have hhs : hd'.size = d := by rw [hhd]; exact pre_size (by omega)
          have Hst := Lib.hid (needs_at (s := s) (d := d) (cnt := cntP d xs) (o := lastO k L) hx)
          rw [← hhd] at Hst
          have hc60 : cntP d xs hd' ≤ 60 := Nat.le_trans (List.length_filter_le _ _) hx60
          obtain ⟨cp, hcp⟩ : ∃ q, q = cntP d xs hd' := ⟨_, rfl⟩
          obtain ⟨cc, hcc⟩ : ∃ q, q = ceil cp s := ⟨_, rfl⟩
          rw [← hcp] at hc60
          have Hcn : Hid (∀ W, Below w1.heap.size w1 W → Calls Try.prog 14 #[.slice (some ad) xs.length vc, .string hd'] W fun e w' => e = .returned (.int .i64 (cp : Int)) ∧ Below W.heap.size W w') := Lib.hid fun W hW => by
            have h1 := count_any _ xs hd' W (H.out.below hW) Hs.out Hbv.out (by omega) (by rw [hhd]; exact digs_pre d (HDD.out x hxm))
            rw [hhd, cntB_pre xs (by omega), ← hhd, ← hcp] at h1
            exact h1
          have Hle : Hid (∀ W, Calls Try.prog 13 #[.int .i64 (cp : Int), .int .i64 (s : Int)] W fun e w' => e = .returned (.int .i64 (cc : Int)) ∧ W = w') := Lib.hid fun W => by
            have h1 := impl_least (cp : Int) (s : Int) W
            rw [least_ceil hc60 ⟨by omega, by omega⟩, Int.toNat_natCast, ← hcc] at h1
            exact h1
          rw [← hcp, ← hcc] at Hst
          clear hcp hcc hx hxm hhd hc60
          have Hyes : Hid (lastO k L ≠ some hd' → N + cc + needs s d (cntP d xs) (lastO (k + 1) hd') (xs.drop (k + 1)) = us.length) := Lib.hid fun hh => by have h2 := Hn.out; rw [Hst.out, if_neg hh] at h2; omega
          have Hno : Hid (lastO k L = some hd' → N + needs s d (cntP d xs) (lastO (k + 1) hd') (xs.drop (k + 1)) = us.length) := Lib.hid fun hh => by have h2 := Hn.out; rw [Hst.out, if_pos hh] at h2; omega
          clear Hst Hn
          by_cases hk0 : k = 0
          · have Hnn := Lib.hid (Hyes.out (by simp [lastO, hk0]))
            have ek : ((k : Int) == 0) = true := by rw [hk0]; rfl
            have hNc : N + cc ≤ us.length := by have := Hnn.out; omega
            have Hcn1 := Lib.hid (Hcn.out wr Hbr.out)
            clear Hyes Hno hk0
            go_wp2_with fail
            refine Hcn1.out.mono ?_
            rintro e w6 ⟨rfl, hb6⟩
            have Hb6 := Lib.hid (below_trans' Hbr.out hb6)
            have Hle1 := Lib.hid (Hle.out w6)
            clear hb6 Hcn1
            go_wp2_with fail
            refine Hle1.out.mono ?_
            rintro e w7 ⟨rfl, hw7⟩
            subst hw7
            have hsb : (N : Int) + (cc : Int) ≤ 9223372036854775807 := by omega
            have hsa : 0 ≤ (N : Int) + (cc : Int) := by omega
            clear Hle1
            go_wp2_with fail
            go_roundw
            case rel => exact ⟨k + 1, N + cc, hd', by omega, hNc, by go_num, rfl, by go_num, Hb6, Hnn⟩
            case measure => simp [intOf]; omega
          · have hL : lastO k L = some L := by simp [lastO, hk0]
            have ek : ((k : Int) == 0) = false := by simp; omega
            by_cases he : hd' = L
            · subst he
              have Hnn := Lib.hid (Hno.out hL)
              have e1 : (hd'.toList == hd'.toList) = true := str_same rfl
              clear Hyes Hno hk0 hL
              go_wp2_with fail
              go_roundw
              case rel => exact ⟨k + 1, N, hd', by omega, hN, rfl, rfl, by go_num, Hbr, Hnn⟩
              case measure => simp [intOf]; omega
            · have Hnn := Lib.hid (Hyes.out (by rw [hL]; intro h; injection h with h; exact he h.symm))
              have hNc : N + cc ≤ us.length := by have := Hnn.out; omega
              have Hcn1 := Lib.hid (Hcn.out wr Hbr.out)
              have e1 : (hd'.toList == L.toList) = false := str_diff he
              clear Hyes Hno hk0 hL he
              go_wp2_with fail
              refine Hcn1.out.mono ?_
              rintro e w6 ⟨rfl, hb6⟩
              have Hb6 := Lib.hid (below_trans' Hbr.out hb6)
              have Hle1 := Lib.hid (Hle.out w6)
              clear hb6 Hcn1
              go_wp2_with fail
              refine Hle1.out.mono ?_
              rintro e w7 ⟨rfl, hw7⟩
              subst hw7
              have hsb : (N : Int) + (cc : Int) ≤ 9223372036854775807 := by omega
              have hsa : 0 ≤ (N : Int) + (cc : Int) := by omega
              clear Hle1
              go_wp2_with fail
              go_roundw
              case rel => exact ⟨k + 1, N + cc, hd', by omega, hNc, by go_num, rfl, by go_num, Hb6, Hnn⟩
              case measure => simp [intOf]; omega
        · have hk' : k = xs.length := by omega
          have Hend : Hid (N = us.length) := Lib.hid (by have := Hn.out; rw [hk', List.drop_length, needs] at this; omega)
          have e9 : ((N : Int) == (us.length : Int)) = true := by rw [Hend.out]; simp
          have hlt' : ¬ (k : Int) < (xs.length : Int) := by omega
          go_wp2_with fail
          go_ret
          exact ⟨ret_bool rfl, below_trans' Hb.out Hbr.out⟩

end Go.Proofs.Ytaadjjadpacclaa
