
/- The walks of impl.CountPrefix and impl.SortedBatch. -/
import Derived.Test.YtaadjjadpacclaaTy8
import Derived.Test.YtaadjjadpacclaaTyLaw
import Derived.Deep.QuietTactic
import Derived.BigQuiet
namespace Go.Proofs.Ytaadjjadpacclaa
open Go.RowKit
set_option linter.unusedVariables false

theorem hasPrefix_any (s p : ByteArray) (w : World) (hs : s.size ≤ 100) (hp : p.size ≤ s.size) :
    Calls Try.prog 37 #[.string s, .string p] w fun e w' => e = .returned (.bool (decide (pre p.size s = p))) ∧ w = w' := by
  have Hb : Hid (((s.extract 0 p.size).toList == p.toList) = decide (pre p.size s = p)) := Lib.hid (str_eq _ _)
  have hl' : (p.size : Int) ≤ (s.size : Int) := by omega
  go_enter Try.func37, Try.ntmps37
  go_wp2
  all_goals
    go_ret
    exact ⟨ret_bool Hb.out, rfl⟩
theorem prefix_any (s : ByteArray) (w : World) (h7 : s.size ≤ 7) (hd : digs s = true) :
    Calls Try.prog 36 #[.string s] w fun e w' => e = .returned (.bool true) ∧ w = w' := by
  have H := Lib.hid (allDigits_any s w (by unfold maxLen; omega))
  rw [hd] at H
  have h7' : (s.size : Int) ≤ 7 := by omega
  clear h7 hd
  go_enter Try.func36, Try.ntmps36
  go_wp2_with fail
  refine H.out.mono ?_
  rintro e w' ⟨rfl, rfl⟩
  go_wp2_with fail
  go_ret
  exact ⟨rfl, rfl⟩
def cntB (p : ByteArray) (xs : List Ltr) : Nat := (xs.filter fun x => decide (pre p.size x.2 = p)).length
theorem cntB_snoc {p : ByteArray} {xs : List Ltr} {k : Nat} {x : Ltr} (h : xs[k]? = some x) : cntB p (xs.take (k + 1)) = cntB p (xs.take k) + if pre p.size x.2 = p then 1 else 0 := by
  rw [cntB, take_snoc h, List.filter_append, List.length_append]
  congr 1
  by_cases hh : pre p.size x.2 = p <;> simp [hh]
theorem cntB_le {p : ByteArray} (xs : List Ltr) : cntB p xs ≤ xs.length := List.length_filter_le _ _
/-- Two rows of the call's own, apart; the first has n letters. -/
def Two (w : World) (B : Nat) (u v : Value) (n : Nat) : Prop := ∃ xs ys : List Ltr, xs.length = n ∧ w.ownsRow B 31 2 u xs.length (lcs xs) ∧ w.ownsRow B 31 2 v ys.length (lcs ys) ∧ ys.length ≤ 100 ∧ Apart v u

set_option maxRecDepth 100000 in
set_option maxHeartbeats 1600000 in
theorem split_any (v : Value) (xs : List Ltr) (p : ByteArray) (w : World) (h : Lt w v xs) (hs : Szs xs) (hv : bv xs = true) (h7 : p.size ≤ 7) (hd : digs p = true) :
    Calls Try.prog 27 #[v, .string p] w fun e w' => ∃ (C : Option Addr) (cp : Nat) (u2 : Value), e = .returned (.tuple #[.slice C (cntB p xs) cp, u2, .bool true]) ∧ Below w.heap.size w w' := by
  have H1 := Lib.hid (impl_bv v xs w h hs)
  rw [hv] at H1
  have hx60 := (bv_parts hv).1
  have Hc : Hid (∀ x ∈ xs, x.2.size = 7) := Lib.hid fun x hx => codeB_size ((bv_parts hv).2.1 x hx).1
  have H2 : Hid (∀ W : World, Calls Try.prog 36 #[.string p] W fun e w' => e = .returned (.bool true) ∧ W = w') := Lib.hid fun W => prefix_any p W h7 hd
  obtain ⟨A, c, rfl, hA, hc1, hc2⟩ := h
  unfold maxLen at hc2
  have HA := Lib.hid hA
  clear hA hs hv hd
  go_enter Try.func27, Try.ntmps27
  go_wp2_with fail
  refine H1.out.mono ?_
  rintro e w1 ⟨rfl, hb1⟩
  have Hb1 := Lib.hid hb1
  clear hb1 H1
  go_wp2_with fail
  refine (H2.out w1).mono ?_
  rintro e w2 ⟨rfl, rfl⟩
  have H0 : Hid (Two w1 w.heap.size (.slice none 0 0) (.slice none 0 0) (cntB p (xs.take 0))) := Lib.hid ⟨[], [], rfl, World.ownsRow_nil _ _ _ _, World.ownsRow_nil _ _ _ _, by simp, by intro g hg; simp [Value.ownBlock] at hg⟩
  go_wp2_with fail
  go_loopw [7, 8, 21] (fun a b i wr => ∃ (k : Nat) (u u2 : Value), k ≤ xs.length ∧ i = .int .i64 k ∧ u = a ∧ u2 = b ∧ Hid (Below w.heap.size w wr) ∧ Hid (∃ l m : List Ltr, l.length = cntB p (xs.take k) ∧ wr.ownsRow w.heap.size 31 2 u l.length (lcs l) ∧ wr.ownsRow w.heap.size 31 2 u2 m.length (lcs m) ∧ m.length ≤ k ∧ Apart u2 u)) (fun _ _ i _ => xs.length - (intOf i).toNat)
  case atStart => exact ⟨0, _, _, Nat.zero_le _, rfl, rfl, rfl, Hb1, Lib.hid ⟨[], [], rfl, World.ownsRow_nil _ _ _ _, World.ownsRow_nil _ _ _ _, by simp, by intro g hg; simp [Value.ownBlock] at hg⟩⟩
  case round =>
    obtain ⟨k, u, u2, hk, rfl, rfl, rfl, Hb, Hz⟩ := hrel
    by_cases hlt : k < xs.length
    · obtain ⟨l, m, hll, hu, hu2, hml, hap⟩ := Hz.out
      obtain ⟨ad, x, rfl, hx, hcA, hcB⟩ := (HA.out.below Hb.out).two hlt
      have hxs := Hc.out x (List.mem_of_getElem? hx)
      have Hsn := Lib.hid (cntB_snoc (p := p) hx)
      have hl60 : l.length ≤ 60 := by
        have := cntB_le (p := p) (xs.take k)
        rw [List.length_take] at this
        omega
      obtain ⟨C, cp, rfl, _, _, _, _⟩ := own_form hu
      obtain ⟨C2, cp2, rfl, _, _, _, _⟩ := own_form hu2
      obtain ⟨wn, hwn⟩ : ∃ wn, wn = wr.alloc (.cells #[.int .i64 x.1, .string x.2] 31) := ⟨_, rfl⟩
      have hbn : Below wr.heap.size wr wn := by rw [hwn]; exact (Below.refl _ _).alloc (Nat.le_refl _) _
      obtain ⟨wm, hwm⟩ : ∃ wm, wm = wn.alloc (.cells #[.int .i64 x.1, .string x.2] 31) := ⟨_, rfl⟩
      have hbm : Below wn.heap.size wn wm := by rw [hwm]; exact (Below.refl _ _).alloc (Nat.le_refl _) _
      have hnm : Rd wm (some ⟨wn.heap.size, 0, none⟩) (lcs [x]) := by rw [hwm]; exact rd_new wn (lcs [x]) 31
      have Hbm := Lib.hid (below_trans' Hb.out (below_trans' hbn hbm))
      have Hu := Lib.hid (own_below (own_below hu hbn) hbm)
      have Hu2 := Lib.hid (own_below (own_below hu2 hbn) hbm)
      have Hnm := Lib.hid hnm
      have Hap := Lib.hid hap
      have Hll := Lib.hid hll
      have H3 := Lib.hid (hasPrefix_any x.2 p wn (by omega) (by omega))
      have hnsz : wn.heap.size = wr.heap.size + 1 := by rw [hwn, World.size_alloc]
      have HwM : Hid (wm = (wr.alloc (.cells #[.int .i64 x.1, .string x.2] 31)).alloc (.cells #[.int .i64 x.1, .string x.2] 31)) := Lib.hid (by rw [hwm, hwn])
      rw [hnsz] at Hnm
      rw [hwn] at H3
      simp only [ltf] at hcA hcB
      clear hx hu hu2 hap hnm hbn hbm hwm hwn hll hnsz
      by_cases hp : pre p.size x.2 = p
      · rw [decide_eq_true hp] at H3
        have Hp := Lib.hid hp
        clear hp
        go_wp2_with fail
        refine H3.out.mono ?_
        rintro e w3 ⟨rfl, hw3⟩
        subst hw3
        go_wp2_with (at_builtin; simp only [← HwM.out]; refine wpList_append_rd rfl (.tmp 29) (.tmp 31) 23 rfl ltr_elem (base := w.heap.size) (.slice C l.length cp) l.length (lcs l) rfl Hu.out (some ⟨wr.heap.size + 1, 0, none⟩) 1 1 (lcs [x]) rfl rfl Hnm.out (lcs_oneCell _) (by unfold maxLen; omega) (by omega) Hbm.out.size ?_; intro v5 w5 hown5 hg5 hm5)
        have Hb5 : Hid (Below w.heap.size w w5) := Lib.hid (Hbm.out.grown hg5 Hbm.out.size (fun g e => (Hu.out.lt g e).1))
        have Hz5 : Hid (∃ a b : List Ltr, a.length = cntB p (xs.take (k + 1)) ∧ w5.ownsRow w.heap.size 31 2 v5 a.length (lcs a) ∧ w5.ownsRow w.heap.size 31 2 (.slice C2 m.length cp2) b.length (lcs b) ∧ b.length ≤ k + 1 ∧ Apart (.slice C2 m.length cp2) v5) := Lib.hid ⟨l ++ [x], m, by rw [Hsn.out, if_pos Hp.out, List.length_append, Hll.out]; rfl, by rw [List.length_append, lcs_snoc]; exact hown5, Hu2.out.kept hg5 (apart_row Hap.out), by omega, moved_gap (lo := w.heap.size) hm5 Hap.out fun g e => (Hu2.out.lt g e).2⟩
        clear hown5 hg5 hm5 Hu Hu2 Hnm Hap Hll
        go_roundw
        case rel => exact ⟨k + 1, _, _, by omega, by go_num, rfl, rfl, Hb5, Hz5⟩
        case measure => simp [intOf]; omega
      · rw [decide_eq_false hp] at H3
        have Hp := Lib.hid hp
        clear hp
        go_wp2_with fail
        refine H3.out.mono ?_
        rintro e w3 ⟨rfl, hw3⟩
        subst hw3
        go_wp2_with (at_builtin; simp only [← HwM.out]; refine wpList_append_rd rfl (.tmp 33) (.tmp 35) 23 rfl ltr_elem (base := w.heap.size) (.slice C2 m.length cp2) m.length (lcs m) rfl Hu2.out (some ⟨wr.heap.size + 1, 0, none⟩) 1 1 (lcs [x]) rfl rfl Hnm.out (lcs_oneCell _) (by unfold maxLen; omega) (by omega) Hbm.out.size ?_; intro v5 w5 hown5 hg5 hm5)
        have Hb5 : Hid (Below w.heap.size w w5) := Lib.hid (Hbm.out.grown hg5 Hbm.out.size (fun g e => (Hu2.out.lt g e).1))
        have Hz5 : Hid (∃ a b : List Ltr, a.length = cntB p (xs.take (k + 1)) ∧ w5.ownsRow w.heap.size 31 2 (.slice C l.length cp) a.length (lcs a) ∧ w5.ownsRow w.heap.size 31 2 v5 b.length (lcs b) ∧ b.length ≤ k + 1 ∧ Apart v5 (.slice C l.length cp)) := Lib.hid ⟨l, m ++ [x], by rw [Hsn.out, if_neg Hp.out, Hll.out]; rfl, Hu.out.kept hg5 (apart_row Hap.out.symm), by rw [List.length_append, lcs_snoc]; exact hown5, by rw [List.length_append]; simp; omega, (moved_gap (lo := w.heap.size) hm5 Hap.out.symm fun g e => (Hu.out.lt g e).2).symm⟩
        clear hown5 hg5 hm5 Hu Hu2 Hnm Hap Hll
        go_roundw
        case rel => exact ⟨k + 1, _, _, by omega, by go_num, rfl, rfl, Hb5, Hz5⟩
        case measure => simp [intOf]; omega
    · have hk' : k = xs.length := by omega
      subst hk'
      obtain ⟨l, m, hll, hu, _, _, _⟩ := Hz.out
      rw [List.take_length] at hll
      obtain ⟨C, cp, rfl, _, _, _, _⟩ := own_form hu
      have Hll := Lib.hid hll
      have hirr : ¬ ((xs.length : Int) < (xs.length : Int)) := by omega
      clear hll hu Hz hlt hk
      go_wp2_with fail
      go_ret3
      exact ⟨⟨C, cp, _, by rw [Hll.out]; rfl⟩, Hb.out⟩

theorem count_any (v : Value) (xs : List Ltr) (p : ByteArray) (w : World) (h : Lt w v xs) (hs : Szs xs) (hv : bv xs = true) (h7 : p.size ≤ 7) (hd : digs p = true) :
    Calls Try.prog 14 #[v, .string p] w fun e w' => e = .returned (.int .i64 (cntB p xs : Int)) ∧ Below w.heap.size w w' := by
  have H := Lib.hid (split_any v xs p w h hs hv h7 hd)
  clear h hs hv h7 hd
  go_enter Try.func14, Try.ntmps14
  go_wp2_with fail
  refine H.out.mono ?_
  rintro e w1 ⟨C, cp, u2, rfl, hb⟩
  go_wp2_with fail
  go_ret
  exact ⟨rfl, hb⟩

set_option maxRecDepth 100000 in
set_option maxHeartbeats 800000 in
theorem sorted_any (v : Value) (xs : List Ltr) (w : World) (h : Lt w v xs) (hs : Szs xs) :
    Calls Try.prog 12 #[v] w fun e w' => (∃ r : Bool, e = .returned (.bool r) ∧ (r = true → ascB xs)) ∧ Below w.heap.size w w' := by
  have H1 := Lib.hid (impl_bv v xs w h hs)
  obtain ⟨A, c, rfl, hA, hc1, hc2⟩ := h
  unfold maxLen at hc2
  have HA := Lib.hid hA
  clear hA hs
  go_enter Try.func12, Try.ntmps12
  go_wp2_with fail
  refine H1.out.mono ?_
  rintro e w1 ⟨rfl, hb1⟩
  have Hb1 := Lib.hid hb1
  clear hb1 H1
  cases hv : bv xs with
  | false =>
    clear hv
    go_wp2_with fail
    go_ret
    exact ⟨⟨false, rfl, fun h => by cases h⟩, Hb1.out⟩
  | true =>
    clear hv
    go_wp2_with fail
    go_loopw [3] (fun i wr => ∃ k : Nat, i = .int .i64 ((k + 1 : Nat) : Int) ∧ (k = 0 ∨ k < xs.length) ∧ Hid (Below w.heap.size w wr) ∧ Hid (∀ (i : Nat) (x y : Ltr), i < k → xs[i]? = some x → xs[i + 1]? = some y → bl y.2.data.toList x.2.data.toList = false)) (fun i _ => xs.length + 1 - (intOf i).toNat)
    case atStart => exact ⟨0, rfl, .inl rfl, Hb1, Lib.hid (by intro i x y hi; omega)⟩
    case round =>
      obtain ⟨k, rfl, hk, Hb, Hasc⟩ := hrel
      by_cases hlt : k + 1 < xs.length
      · obtain ⟨ad, x, rfl, hx, hcA, hcB⟩ := (HA.out.below Hb.out).two (k := k) (by omega)
        obtain ⟨ad2, y, had, hy, hcC, hcD⟩ := (HA.out.below Hb.out).two hlt
        injection had with had
        subst had
        simp only [ltf] at hcA hcB hcC hcD
        have Hx := Lib.hid hx
        have Hy := Lib.hid hy
        have hi1 : ((k + 1 : Nat) : Int) < (xs.length : Int) := by omega
        have hi0 : ((k + 1 : Nat) : Int) - 1 = (k : Int) := by omega
        have hku : (k : Int) < (xs.length : Int) := by omega
        clear hx hy
        cases hbl : bl y.2.data.toList x.2.data.toList with
        | true =>
          have hbl' : Go.Op.bytesLess y.2.toList x.2.toList = true := by rw [ByteArray.toList_eq, ByteArray.toList_eq]; exact hbl
          clear hbl
          go_wp2_with fail
          go_quiet (fail)
          go_wp2_with fail
          go_ret
          exact ⟨⟨false, rfl, fun h => by cases h⟩, below_drewN Hb.out _⟩
        | false =>
          have Hbl := Lib.hid hbl
          have hbl' : Go.Op.bytesLess y.2.toList x.2.toList = false := by rw [ByteArray.toList_eq, ByteArray.toList_eq]; exact hbl
          have Hasc2 : Hid (∀ (i : Nat) (a b : Ltr), i < k + 1 → xs[i]? = some a → xs[i + 1]? = some b → bl b.2.data.toList a.2.data.toList = false) := Lib.hid fun i a b hi ha hb => by
            by_cases e : i = k
            · subst e
              rw [Hx.out] at ha
              rw [Hy.out] at hb
              injection ha with ha
              injection hb with hb
              rw [← ha, ← hb]
              exact Hbl.out
            · exact Hasc.out i a b (by omega) ha hb
          clear hbl
          go_wp2_with fail
          go_quiet (fail)
          go_wp2_with fail
          go_roundw
          case rel => exact ⟨k + 1, by go_num, .inr hlt, Lib.hid (below_drewN Hb.out _), Hasc2⟩
          case measure => simp [intOf]; omega
      · have hlt' : ¬ ((k + 1 : Nat) : Int) < (xs.length : Int) := by omega
        have Hres : Hid (ascB xs) := Lib.hid fun i x y hx hy => Hasc.out i x y (by have := (List.getElem?_eq_some_iff.1 hy).1; omega) hx hy
        go_wp2_with fail
        go_ret
        exact ⟨.inr ⟨rfl, Hres.out⟩, Hb.out⟩

end Go.Proofs.Ytaadjjadpacclaa
