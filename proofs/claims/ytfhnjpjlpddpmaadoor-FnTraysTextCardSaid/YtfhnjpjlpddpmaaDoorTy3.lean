
/- The walks of the functions on trays: copies, comparisons, sizes, marks. -/
import Derived.Test.YtfhnjpjlpddpmaaDoorTy2
namespace Go.Proofs.YtfhnjpjlpddpmaaDoor
open Go.RowKit
set_option linter.unusedVariables false

/-- Trays that read. -/
def LtS (w : World) (v : Value) (xss : List (List Ltr)) : Prop := ∃ us, Sl w v us.length us ∧ SlRows Lt w us xss
/-- Trays of the call's own. -/
abbrev RowsL := Rows (β := List Ltr) 35 2 List.length lcs
def OLL (w : World) (lo hi : Nat) (v : Value) (xss : List (List Ltr)) : Prop := ∃ us, Own w lo hi 33 1 v us.length us ∧ RowsL w lo hi us xss
theorem LtS.below {w w' : World} {v : Value} {xss : List (List Ltr)} (h : LtS w v xss) (hb : Below w.heap.size w w') : LtS w' v xss := by
  obtain ⟨us, h1, h2⟩ := h
  exact ⟨us, h1.below hb, h2.mono fun u xs h => h.below hb⟩
theorem OLL.below {w w' : World} {lo hi : Nat} {v : Value} {xss : List (List Ltr)} (h : OLL w lo hi v xss) (hb : Below w.heap.size w w') : OLL w' lo hi v xss := by
  obtain ⟨us, h1, h2⟩ := h
  exact ⟨us, h1.below hb, h2.below hb⟩
theorem OLL.only {w w' : World} {lo hi lo' hi' : Nat} {v : Value} {xss : List (List Ltr)} (h : OLL w lo hi v xss) (hb : Only w w' lo' hi') (hd : hi ≤ lo' ∨ hi' ≤ lo) : OLL w' lo hi v xss := by
  obtain ⟨us, h1, h2⟩ := h
  exact ⟨us, h1.only hb hd, h2.only hb hd⟩
theorem OLL.lts {w : World} {lo hi : Nat} {v : Value} {xss : List (List Ltr)} (h : OLL w lo hi v xss) : LtS w v xss := by
  obtain ⟨us, h1, h2⟩ := h
  exact ⟨us, h1.sl, h2.len, fun i u xs a b => (h2.row i u xs a b).sl⟩
theorem LtS.len {w : World} {v : Value} {xss : List (List Ltr)} (h : LtS w v xss) : xss.length ≤ maxLen := by
  obtain ⟨us, h1, h2⟩ := h
  have := h1.le
  have := h2.len
  omega
theorem trays_info : (Tryd.prog.info? 33).map (fun i => (i.zero, i.size, i.bytes)) = some (some (.slice none 0 0), 1, 24) := by kernel_rfl
theorem trays_elem : ElemInfo Tryd.prog 25 33 1 24 := elemInfo_of Tryd.underlying25 trays_info rfl (by decide)
theorem made1 (z : Value) (n : Nat) (hz : z.cells = #[z]) : (madeCells z.cells (n * 1)).toList = List.replicate n z := by rw [hz, Nat.mul_one, made_toList]

/-- k rows are there, nil slices behind them. -/
def padN (us : List Value) (n : Nat) : List Value := us ++ List.replicate (n - us.length) (.slice none 0 0)
theorem padN_nil (n : Nat) : padN [] n = List.replicate n (.slice none 0 0) := by simp [padN]
theorem padN_length {us : List Value} {n : Nat} (h : us.length ≤ n) : (padN us n).length = n := by simp [padN]; omega
theorem padN_at {us : List Value} {n : Nat} (h : us.length < n) : (padN us n)[us.length]? = some (.slice none 0 0) := by
  rw [padN, List.getElem?_append_right (Nat.le_refl _), Nat.sub_self, List.getElem?_replicate, if_pos (by omega)]
theorem padN_set {us : List Value} {n : Nat} (u : Value) (h : us.length < n) : (padN us n).set us.length u = padN (us ++ [u]) n := by
  unfold padN
  rw [List.set_append_right _ _ (Nat.le_refl _), Nat.sub_self, List.length_append, List.length_cons, List.length_nil]
  have e : n - us.length = (n - (us.length + (0 + 1))) + 1 := by omega
  rw [e, List.replicate_succ, List.set_cons_zero, List.append_assoc]; rfl
theorem padN_full {us : List Value} : padN us us.length = us := by simp [padN]
theorem Rows.mem {β : Type} {e : TypeId} {size : Nat} {num : β → Nat} {cs : β → List Value} {w : World} {lo hi : Nat} {us : List Value} {xss : List β} (h : Rows e size num cs w lo hi us xss) {u : Value} (hu : u ∈ us) : ∃ xs, Own w lo hi e size u (num xs) (cs xs) := by
  obtain ⟨i, hi⟩ := List.getElem?_of_mem hu
  have hl := (List.getElem?_eq_some_iff.1 hi).1
  have hx := List.getElem?_eq_getElem (l := xss) (i := i) (by have := h.len; omega)
  exact ⟨_, h.row i u _ hi hx⟩
theorem Rows.push {β : Type} {e : TypeId} {size : Nat} {num : β → Nat} {cs : β → List Value} {w w' : World} {lo : Nat} {us : List Value} {xss : List β} (h : Rows e size num cs w lo w.heap.size us xss) (hb : Below w.heap.size w w') (hlo : lo ≤ w.heap.size) {u : Value} {xs : β} (ho : Own w' w.heap.size w'.heap.size e size u (num xs) (cs xs)) :
    Rows e size num cs w' lo w'.heap.size (us ++ [u]) (xss ++ [xs]) := by
  refine ((h.below hb).wide (Nat.le_refl _) hb.size).snoc (ho.wide hlo (Nat.le_refl _)) fun v hv => ?_
  obtain ⟨ys, hy⟩ := h.mem hv
  exact hy.gap ho (.inl (Nat.le_refl _))

set_option maxRecDepth 100000 in
set_option maxHeartbeats 800000 in
theorem toLL (v : Value) (xss : List (List Ltr)) (w : World) (h : LtS w v xss) (hn : xss.length ≤ 1048576) (hn2 : ∀ xs ∈ xss, xs.length ≤ 1048576) :
    Calls Tryd.prog 7 #[v] w fun e w' => ∃ u, e = .returned u ∧ OLL w' w.heap.size w'.heap.size u xss ∧ Below w.heap.size w w' := by
  obtain ⟨us, ⟨A, c, rfl, hA, hc1, hc2⟩, hus⟩ := h
  obtain ⟨i0, hi, hz0, hz1, hz2⟩ := info_parts trays_info
  have hul := hus.len
  have Hn2 := Lib.hid hn2
  have Hus := Lib.hid hus
  have HA := Lib.hid hA
  clear hn2 hus hA
  obtain ⟨n, hnn⟩ : ∃ n, n = xss.length := ⟨_, rfl⟩
  rw [← hnn] at hul hn
  have Hnn := Lib.hid hnn
  clear hnn
  generalize hm : us.length = m at *
  subst hul
  have Hm := Lib.hid hm
  clear hm
  go_enter Tryd.func7, Tryd.ntmps7
  go_wp2_with (at_make; refine wpList_make_full _ rfl _ _ _ rfl w.heap.size 33 i0 _ 1 Tryd.underlying25 hi hz0 hz1 _ _ _ _ m rfl rfl rfl rfl (by rw [hz2]; omega) (by unfold maxLen; omega) (Nat.le_refl _) ?_; intro w1 hown1 hg1)
  rw [made1 _ _ rfl, ← padN_nil] at hown1
  have hb1 : Below w.heap.size w w1 := (Below.refl _ _).grown hg1 (Nat.le_refl _) (by simp)
  have H0 : Hid (∃ vs, vs.length = 0 ∧ w1.ownsRow w.heap.size 33 1 (.slice (some ⟨w.heap.size, 0, none⟩) m m) m (padN vs m) ∧ RowsL w1 w.heap.size w1.heap.size vs (xss.take 0)) := ⟨[], rfl, hown1, Rows.nil⟩
  clear hown1 hg1
  go_loopw [4] (fun i wr => ∃ k : Nat, k ≤ m ∧ i = .int .i64 k ∧ Below w.heap.size w wr ∧ Hid (∃ vs, vs.length = k ∧ wr.ownsRow w.heap.size 33 1 (.slice (some ⟨w.heap.size, 0, none⟩) m m) m (padN vs m) ∧ RowsL wr w.heap.size wr.heap.size vs (xss.take k))) (fun i _ => m - (intOf i).toNat)
  case atStart => exact ⟨0, Nat.zero_le _, rfl, hb1, H0⟩
  case round =>
    obtain ⟨k, hk, rfl, hb, hys⟩ := hrel
    clear H0 hb1
    by_cases hlt : k < m
    · obtain ⟨u, xs, hu, hx, hux⟩ := Hus.out.at_ (k := k) (by have := Hnn.out; omega)
      obtain ⟨ad, rfl, hcA⟩ := (HA.out.below hb) k _ hu
      have hxl := Hn2.out xs (List.mem_of_getElem? hx)
      have Hx := Lib.hid hx
      have Hux := Lib.hid (hux.below hb)
      clear hu hx hux
      go_wp2_with fail
      refine (toL _ xs _ Hux.out hxl).mono ?_
      rintro e w2 ⟨u2, rfl, ho2, hb2⟩
      obtain ⟨vs, hvl, hown, hrows⟩ := hys.out
      subst hvl
      have hrows2 := hrows.push hb2 hb.size ho2
      replace hown := own_below hown hb2
      have hsz := hb.size
      replace hb := below_trans' hb hb2
      have hc2 : w2.cell? ⟨w.heap.size, vs.length, none⟩ = some (.slice none 0 0) := (hown.cellAt _ (by omega)).trans (padN_at hlt)
      have hfz : w2.frozen? ⟨w.heap.size, vs.length, none⟩ = false := hown.frozenAt _
      have hst := hown.stored vs.length u2
      rw [padN_set _ hlt] at hst
      have Hst := Lib.hid hst
      have Hrows := Lib.hid hrows2
      have Hown := Lib.hid hown
      obtain ⟨A2, c2, rfl⟩ := own_shape ho2.row
      clear hst hown hrows hys hb2 hrows2 ho2
      go_wp2_with fail
      go_roundw
      case rel =>
        refine ⟨vs.length + 1, by omega, by go_num, hb.setCell (Nat.le_refl _) _, ⟨vs ++ [_], by simp, Hst.out.1, ?_⟩⟩
        rw [take_snoc Hx.out, World.size_setCell]
        refine Hrows.out.kept Hst.out.2 fun v hv => ?_
        obtain ⟨ys, hy⟩ := Hrows.out.mem hv
        exact apart_row (own_apart_type hy.row Hown.out (by decide))
      case measure => simp [intOf]; omega
    · have hk' : k = m := by omega
      subst hk'
      obtain ⟨vs, hvl, hown, hrows⟩ := hys.out
      rw [← hvl, padN_full] at hown
      rw [Hnn.out, List.take_length] at hrows
      go_wp2_with fail
      go_ret
      exact ⟨_, rfl, ⟨vs, by rw [← hvl]; exact own_of hown, hrows⟩, hb⟩


set_option maxRecDepth 100000 in
set_option maxHeartbeats 800000 in
theorem eqLL (v u : Value) (xs ys : List (List Ltr)) (w : World) (h : LtS w v xs) (hu : LtS w u ys) :
    Calls Tryd.prog 9 #[v, u] w fun e w' => e = .returned (.bool (decide (xs = ys))) ∧ Below w.heap.size w w' := by
  obtain ⟨us, ⟨A, c, rfl, hA, hc1, hc2⟩, hus⟩ := h
  obtain ⟨vs, ⟨D, d, rfl, hD, hd1, hd2⟩, hvs⟩ := hu
  unfold maxLen at hc2 hd2
  have HA := Lib.hid hA
  have HD := Lib.hid hD
  have Hus := Lib.hid hus
  have Hvs := Lib.hid hvs
  have Hul := Lib.hid hus.len
  have Hvl := Lib.hid hvs.len
  clear hA hD hus hvs
  by_cases hl : us.length = vs.length
  · have Hl := Lib.hid hl
    have hl1 : ((us.length : Int) != (vs.length : Int)) = false := by simp [hl]
    clear hl
    go_enter Tryd.func9, Tryd.ntmps9
    go_wp2_with fail
    go_loopw [5] (fun i wr => ∃ k : Nat, k ≤ us.length ∧ i = .int .i64 k ∧ Below w.heap.size w wr ∧ Hid (xs.take k = ys.take k)) (fun i _ => us.length - (intOf i).toNat)
    case atStart => exact ⟨0, Nat.zero_le _, rfl, Below.refl _ _, Lib.hid rfl⟩
    case round =>
      obtain ⟨k, hk, rfl, hb, heq⟩ := hrel
      by_cases hlt : k < us.length
      · obtain ⟨p, x, hp, hx, hpx⟩ := Hus.out.at_ (k := k) (by have := Hul.out; omega)
        obtain ⟨q, y, hq, hy, hqy⟩ := Hvs.out.at_ (k := k) (by have := Hvl.out; have := Hl.out; omega)
        obtain ⟨ad, rfl, hcA⟩ := (HA.out.below hb) k _ hp
        obtain ⟨ad2, rfl, hcD⟩ := (HD.out.below hb) k _ hq
        have hlt2 : k < vs.length := by have := Hl.out; omega
        have Hx := Lib.hid hx
        have Hy := Lib.hid hy
        have Hpx := Lib.hid (hpx.below hb.drew)
        have Hqy := Lib.hid (hqy.below hb.drew)
        clear hx hy hp hq hpx hqy
        go_wp2_with fail
        go_still_tail 8, (by kernel_rfl)
        go_wp2_with fail
        refine (eqL p q x y _ Hpx.out Hqy.out).mono ?_
        rintro e w2 ⟨rfl, hb2⟩
        replace hb := below_trans' hb.drew hb2
        by_cases hxy : x = y
        · rw [decide_eq_true hxy]
          have Hxy := Lib.hid hxy
          clear hxy hb2
          go_wp2_with fail
          go_roundw
          case rel => exact ⟨k + 1, by omega, by go_num, hb, Lib.hid (by rw [take_snoc Hx.out, take_snoc Hy.out, heq.out, Hxy.out])⟩
          case measure => simp [intOf]; omega
        · rw [decide_eq_false hxy]
          have Hxy := Lib.hid hxy
          clear hxy hb2
          go_wp2_with fail
          go_ret
          exact ⟨ret_bool (by
            rw [decide_eq_false]
            rintro rfl
            have := Hx.out.symm.trans Hy.out
            injection this with this
            exact Hxy.out this), hb⟩
      · have hk' : k = us.length := by omega
        subst hk'
        go_wp2_with fail
        go_ret
        exact ⟨ret_bool (by
          have h1 := heq.out
          rw [List.take_of_length_le (by have := Hul.out; omega), List.take_of_length_le (by have := Hvl.out; have := Hl.out; omega)] at h1
          exact (decide_eq_true h1).symm), hb⟩
  · have hl1 : ((us.length : Int) != (vs.length : Int)) = true := by simp; omega
    go_enter Tryd.func9, Tryd.ntmps9
    go_wp2_with fail
    go_ret
    exact ⟨ret_bool (by rw [decide_eq_false]; rintro rfl; exact hl (by have := Hul.out; have := Hvl.out; omega)), Below.refl _ _⟩

/-- Letters and bytes of all trays. -/
def szss (xss : List (List Ltr)) : Nat := (xss.map fun xs => xs.length + szs xs).sum
theorem szss_snoc {xss : List (List Ltr)} {k : Nat} {xs : List Ltr} (h : xss[k]? = some xs) : szss (xss.take (k + 1)) = szss (xss.take k) + (xs.length + szs xs) := by
  rw [szss, take_snoc h, List.map_append, List.sum_append]; simp [szss]
set_option maxRecDepth 100000 in
set_option maxHeartbeats 800000 in
theorem szLL (v : Value) (xss : List (List Ltr)) (left : Int) (w : World) (h : LtS w v xss) (hs : ∀ xs ∈ xss, ∀ x ∈ xs, x.2.size ≤ maxLen) (h0 : 0 ≤ left) (h1 : left ≤ 1048576) :
    Calls Tryd.prog 5 #[v, .int .i64 left] w fun e w' => (∃ z : Int, e = .returned (.int .i64 z) ∧ -1 ≤ z ∧ z ≤ left ∧ (0 ≤ z → (xss.length : Int) + szss xss + z = left)) ∧ Below w.heap.size w w' := by
  obtain ⟨us, ⟨A, c, rfl, hA, hc1, hc2⟩, hus⟩ := h
  unfold maxLen at hc2
  have Hs := Lib.hid hs
  have HA := Lib.hid hA
  have Hus := Lib.hid hus
  have Hul := Lib.hid hus.len
  clear hs hA hus
  by_cases hlt : left - us.length < 0
  · go_enter Tryd.func5, Tryd.ntmps5
    go_wp2_with fail
    go_ret
    exact ⟨⟨-1, rfl, by omega, by omega, by omega⟩, Below.refl _ _⟩
  · go_enter Tryd.func5, Tryd.ntmps5
    go_wp2_with fail
    go_loopw [1, 5] (fun l i wr => ∃ (k : Nat) (z : Int), k ≤ us.length ∧ i = .int .i64 k ∧ l = .int .i64 z ∧ 0 ≤ z ∧ z ≤ left ∧ Below w.heap.size w wr ∧ Hid ((us.length : Int) + szss (xss.take k) + z = left)) (fun _ i _ => us.length - (intOf i).toNat)
    case atStart => exact ⟨0, _, Nat.zero_le _, rfl, rfl, by omega, by omega, Below.refl _ _, Lib.hid (by simp [szss]; omega)⟩
    case round =>
      obtain ⟨k, z, hk, rfl, rfl, hz0, hz1, hb, hz⟩ := hrel
      by_cases hkl : k < us.length
      · obtain ⟨p, x, hp, hx, hpx⟩ := Hus.out.at_ (k := k) (by have := Hul.out; omega)
        obtain ⟨ad, rfl, hcA⟩ := (HA.out.below hb) k _ hp
        have Hx := Lib.hid hx
        have hxs := Hs.out x (List.mem_of_getElem? hx)
        have Hpx := Lib.hid (hpx.below hb)
        clear hx hp hpx
        go_wp2_with fail
        refine (szL p x z _ Hpx.out hxs hz0 (by omega)).mono ?_
        rintro e w2 ⟨⟨y, rfl, hy0, hy1, hy⟩, hb2⟩
        replace hb := below_trans' hb hb2
        have Hy := Lib.hid hy
        clear hy hb2 hxs
        by_cases hyn : y < 0
        · go_wp2_with fail
          go_ret
          exact ⟨⟨-1, rfl, by omega, by omega, by omega⟩, hb⟩
        · go_wp2_with fail
          go_roundw
          case rel => exact ⟨k + 1, y, by omega, by go_num, rfl, by omega, by omega, hb, Lib.hid (by rw [szss_snoc Hx.out]; have := Hy.out (by omega); have := hz.out; omega)⟩
          case measure => simp [intOf]; omega
      · have hk' : k = us.length := by omega
        subst hk'
        go_wp2_with fail
        go_ret
        exact ⟨⟨z, rfl, by omega, by omega, fun _ => by have := hz.out; rw [List.take_of_length_le (by have := Hul.out; omega)] at this; have := Hul.out; omega⟩, hb⟩


theorem flat_take_le (xss : List (List Ltr)) (m : Nat) : (xss.take m).flatten.length ≤ xss.flatten.length := by
  have : xss.flatten = (xss.take m).flatten ++ (xss.drop m).flatten := by rw [← List.flatten_append, List.take_append_drop]
  rw [this, List.length_append]; omega
/-- Row i marked: what that does to the others. -/
theorem Rows.mark {w w' : World} {lo hi : Nat} {us : List Value} {xss : List (List Ltr)} (h : RowsL w lo hi us xss) {i : Nat} {u : Value} {xs ys : List Ltr} (hu : us[i]? = some u) (hx : xss[i]? = some xs) (hl : ys.length = xs.length) (ho : w'.ownsRow lo 35 2 u ys.length (lcs ys)) (hg : w.grownBy w' u.ownBlock) :
    RowsL w' lo hi us (xss.set i ys) := by
  have hset : us = us.set i u := by
    apply List.ext_getElem?
    intro j
    by_cases hj : i = j
    · subst hj; rw [List.getElem?_set_self (List.getElem?_eq_some_iff.1 hu).1, hu]
    · rw [List.getElem?_set_ne hj]
  have key := Rows.set (w' := w') h (k := i) (u := u) (xs := ys) ⟨ho, (h.row i u xs hu hx).top⟩ (fun j v zs hj hv hz => by
    have h1 := h.row j v zs hv hz
    refine ⟨h1.row.kept hg ?_, h1.top⟩
    have hap : Apart v u := by
      rcases Nat.lt_or_ge i j with h2 | h2
      · exact (h.apart i j u v h2 hu hv).symm
      · exact h.apart j i v u (by omega) hv hu
    exact apart_row hap) (fun j v hj hv => by
    rcases Nat.lt_or_ge i j with h2 | h2
    · exact (h.apart i j u v h2 hu hv).symm
    · exact h.apart j i v u (by omega) hv hu)
  rwa [← hset] at key

end Go.Proofs.YtfhnjpjlpddpmaaDoor
