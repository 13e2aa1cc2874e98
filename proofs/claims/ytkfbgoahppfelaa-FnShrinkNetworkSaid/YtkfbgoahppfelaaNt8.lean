
/- The walk of the program's ShrinkRules. -/
import Derived.Test.YtkfbgoahppfelaaNt7
namespace Go.Proofs.Ytkfbgoahppfelaa
open Go.RowKit
set_option linter.unusedVariables false

theorem best_next {xs L : List Rul} {b : Option Nat} {c : ByteArray} (h : BestAt xs b (bestR L c)) : (b = none ∧ nextR L c = none) ∨ ∃ j y, b = some j ∧ xs[j]? = some y ∧ nextR L c = some y.2 := by
  cases b with
  | none =>
    have : bestR L c = none := h
    exact .inl ⟨rfl, by rw [nextR, this]; rfl⟩
  | some j =>
    obtain ⟨y, h1, h2⟩ := h
    exact .inr ⟨j, y, rfl, h1, by rw [nextR, h2]; rfl⟩
theorem keeps_none {rs : List Rul} {k : Nat} {x : Rul} (h : nextR (dropAt rs k) x.1 = none) : keeps rs k x = true := by simp [keeps, h]
theorem keeps_some {rs : List Rul} {k : Nat} {x y : Rul} (h : nextR (dropAt rs k) x.1 = some y.2) : keeps rs k x = !(y.2.toList == x.2.toList) := by
  rw [str_eq, keeps, h]
  by_cases e : y.2 = x.2 <;> simp [e]

set_option maxRecDepth 100000 in
set_option maxHeartbeats 1600000 in
theorem impl_shrink (v : Value) (xs : List Rul) (w : World) (h : Rt w v xs) (hs : Szr xs) :
    Calls Try.prog 25 #[v] w fun e w' => ∃ u, e = .returned u ∧ OR w' w.heap.size w'.heap.size u (shrink xs) ∧ Below w.heap.size w w' := by
  have H := Lib.hid h
  have Hs := Lib.hid hs
  have H1 := Lib.hid (impl_rv v xs w h hs)
  obtain ⟨A, c, rfl, hA, hc1, hc2⟩ := h
  unfold maxLen at hc2
  have HA := Lib.hid hA
  clear hs hA
  go_enter Try.func25, Try.ntmps25
  go_wp2_with fail
  refine H1.out.mono ?_
  rintro e w1 ⟨rfl, hb1⟩
  have Hb1 := Lib.hid hb1
  clear H1 hb1
  cases hrv : rv xs with
  | false =>
    have Hno := Lib.hid (shrink_no hrv)
    clear hrv
    go_wp2_with fail
    go_ret
    exact ⟨_, rfl, nil_impl Hno.out, Hb1.out⟩
  | true =>
    have Hyes := Lib.hid (shrink_yes hrv)
    have Hrv := Lib.hid hrv
    have hl20 := (rv_parts hrv).len
    have Hl0 : Hid (w1.ownsRow w.heap.size 31 2 (.slice none 0 0) (shrinkTo xs 0).length (rcs (shrinkTo xs 0))) := Lib.hid (World.ownsRow_nil _ _ _ _)
    clear hrv
    go_wp2_with fail
    go_loopw [3, 12] (fun o i wr => ∃ (k : Nat) (u0 : Value), k ≤ xs.length ∧ i = .int .i64 k ∧ u0 = o ∧ Hid (Below w.heap.size w wr) ∧ Hid (wr.ownsRow w.heap.size 31 2 u0 (shrinkTo xs k).length (rcs (shrinkTo xs k)))) (fun _ i _ => xs.length - (intOf i).toNat)
    case atStart => exact ⟨0, _, Nat.zero_le _, rfl, rfl, Hb1, Hl0⟩
    case round =>
      obtain ⟨k, u0, hk, rfl, rfl, Hb, Hown⟩ := hrel
      clear Hb1 Hl0
      by_cases hlt : k < xs.length
      · obtain ⟨ad, x, rfl, hx, hcA, hcB⟩ := (HA.out.below Hb.out).two hlt
        simp only [rtf] at hcA hcB
        have Hx := Lib.hid hx
        have hxs := Hs.out x (List.mem_of_getElem? hx)
        have hba : Below wr.heap.size wr (wr.alloc (.cells #[.string x.1, .string x.2] 31)) := (Below.refl _ _).alloc (Nat.le_refl _) _
        have Hba := Lib.hid hba
        have Hba2 := Lib.hid (Hb.out.alloc Hb.out.size (.cells #[.string x.1, .string x.2] 31))
        have HL := impl_longest _ xs x.1 (k : Int) (fun m => dropAt (xs.take m) k) _ (H.out.below Hba2.out) Hs.out hxs.1 (looked_but xs k)
        rw [dropAt_full] at HL
        have HL := Lib.hid HL
        have Hv0 : Hid ((wr.alloc (.cells #[.string x.1, .string x.2] 31)).cell? ⟨wr.heap.size, 0, none⟩ = some (.string x.1) ∧ (wr.alloc (.cells #[.string x.1, .string x.2] 31)).cell? ⟨wr.heap.size, 1, none⟩ = some (.string x.2)) := Lib.hid ⟨by rw [World.cell?_alloc_at _ _ _ _ rfl]; rfl, by rw [World.cell?_alloc_at _ _ _ _ rfl]; rfl⟩
        have Hle := Lib.hid (shrink_len xs k hl20)
        clear hx hxs hba
        go_wp2_with fail
        refine HL.out.mono ?_
        rintro e w2 ⟨⟨b, rfl, hbl, hbest⟩, hb2⟩
        have hv1 := cell_later hb2 Hv0.out.1
        have hv2 := cell_later hb2 Hv0.out.2
        have Hb2 := Lib.hid (below_trans' Hba2.out hb2)
        have Hown2 := Lib.hid (own_below (own_below Hown.out Hba.out) hb2)
        clear HL hb2 Hb Hown Hv0 hcA hcB
        rcases best_next hbest with ⟨rfl, hn⟩ | ⟨j, y, rfl, hy, hn⟩
        · have Hst := Lib.hid (shrinkTo_yes Hx.out (keeps_none hn))
          have e4 : optI none = -1 := rfl
          rw [e4]
          obtain ⟨C, cp, rfl, _, _, _, _⟩ := own_form Hown2.out
          clear hbest hbl hn e4
          go_wp2_with fail
          go_quiet (fail)
          have Hnd : Hid (∀ n, Below w.heap.size w (w2.drewN n) ∧ (w2.drewN n).ownsRow w.heap.size 31 2 (.slice C (shrinkTo xs k).length cp) (shrinkTo xs k).length (rcs (shrinkTo xs k))) := Lib.hid fun n => ⟨below_drewN Hb2.out n, own_below Hown2.out (below_of_drewN _ _)⟩
          have Hbl : Hid (∀ W : World, Below W.heap.size W (W.alloc (.cells #[.string x.1, .string x.2] 31)) ∧ Rd (W.alloc (.cells #[.string x.1, .string x.2] 31)) (some ⟨W.heap.size, 0, none⟩) (rcs [x])) := Lib.hid fun W => ⟨(Below.refl _ _).alloc (Nat.le_refl _) _, rd_new W (rcs [x]) 31⟩
          have hle := Hle.out
          have hr9 : ∀ g, (Value.slice C (shrinkTo xs k).length cp).ownBlock = some g → w.heap.size ≤ g := fun g e => (Hown2.out.lt g e).1
          go_wp2_with (at_builtin; refine wpList_append_rd rfl (.tmp 34) (.tmp 36) 23 rfl rul_elem (base := w.heap.size) (.slice C (shrinkTo xs k).length cp) (shrinkTo xs k).length (rcs (shrinkTo xs k)) rfl (own_below (Hnd.out _).2 (Hbl.out _).1) (some ⟨_, 0, none⟩) 1 1 (rcs [x]) rfl rfl (Hbl.out _).2 (rcs_oneCell _) (by unfold maxLen; omega) (by omega) (Nat.le_trans (Hnd.out _).1.size (Hbl.out _).1.size) ?_; intro v6 w6 hown6 hg6 hm6)
          have Hb6 := Lib.hid ((below_step (Hnd.out _).1 (Hnd.out _).1.size (Hbl.out _).1).grown hg6 (Nat.le_trans (Hnd.out _).1.size (Hbl.out _).1.size) hr9)
          have Ho6 : Hid (w6.ownsRow w.heap.size 31 2 v6 (shrinkTo xs (k + 1)).length (rcs (shrinkTo xs (k + 1)))) := Lib.hid (by
            rw [Hst.out, List.length_append, show rcs (shrinkTo xs k ++ [x]) = rcs (shrinkTo xs k) ++ rcs [x] from cs2_append _ _]; exact hown6)
          clear hown6 hg6 hm6
          go_roundw
          case rel => exact ⟨k + 1, _, by omega, by go_num, rfl, Hb6, Ho6⟩
          case measure => simp [intOf]; omega
        · obtain ⟨ad2, y', e2, hy', hcC, hcD⟩ := (HA.out.below Hb2.out).two (k := j) (hbl j rfl)
          injection e2 with e2
          subst e2
          rw [hy] at hy'
          injection hy' with hy'
          subst hy'
          simp only [rtf] at hcC hcD
          have e4 : optI (some j) = (j : Int) := rfl
          rw [e4]
          have e3 : decide ((j : Int) < 0) = false := decide_eq_false (by omega)
          have hjl := hbl j rfl
          have hks := keeps_some (k := k) hn
          obtain ⟨C, cp, rfl, _, _, _, _⟩ := own_form Hown2.out
          clear hbest hbl hn e4 hy
          cases hke : keeps xs k x with
          | false =>
            rw [hke] at hks
            have hkp' : (y.2.toList == x.2.toList) = true := by simpa using hks.symm
            have Hst := Lib.hid (shrinkTo_no Hx.out hke)
            clear hks hke
            go_wp2_with fail
            go_quiet (fail)
            go_wp2_with fail
            go_roundw
            case rel => exact ⟨k + 1, _, by omega, by go_num, rfl, Lib.hid (below_drewN Hb2.out _), by rw [Hst.out]; exact Lib.hid (own_below Hown2.out (below_of_drewN _ _))⟩
            case measure => simp [intOf]; omega
          | true =>
            rw [hke] at hks
            have hkp' : (y.2.toList == x.2.toList) = false := by simpa using hks.symm
            have Hst := Lib.hid (shrinkTo_yes Hx.out hke)
            clear hks hke
            go_wp2_with fail
            go_quiet (fail)
            have Hnd : Hid (∀ n, Below w.heap.size w (w2.drewN n) ∧ (w2.drewN n).ownsRow w.heap.size 31 2 (.slice C (shrinkTo xs k).length cp) (shrinkTo xs k).length (rcs (shrinkTo xs k))) := Lib.hid fun n => ⟨below_drewN Hb2.out n, own_below Hown2.out (below_of_drewN _ _)⟩
            have Hbl : Hid (∀ W : World, Below W.heap.size W (W.alloc (.cells #[.string x.1, .string x.2] 31)) ∧ Rd (W.alloc (.cells #[.string x.1, .string x.2] 31)) (some ⟨W.heap.size, 0, none⟩) (rcs [x])) := Lib.hid fun W => ⟨(Below.refl _ _).alloc (Nat.le_refl _) _, rd_new W (rcs [x]) 31⟩
            have hle := Hle.out
            have hr9 : ∀ g, (Value.slice C (shrinkTo xs k).length cp).ownBlock = some g → w.heap.size ≤ g := fun g e => (Hown2.out.lt g e).1
            go_wp2_with (at_builtin; refine wpList_append_rd rfl (.tmp 34) (.tmp 36) 23 rfl rul_elem (base := w.heap.size) (.slice C (shrinkTo xs k).length cp) (shrinkTo xs k).length (rcs (shrinkTo xs k)) rfl (own_below (Hnd.out _).2 (Hbl.out _).1) (some ⟨_, 0, none⟩) 1 1 (rcs [x]) rfl rfl (Hbl.out _).2 (rcs_oneCell _) (by unfold maxLen; omega) (by omega) (Nat.le_trans (Hnd.out _).1.size (Hbl.out _).1.size) ?_; intro v6 w6 hown6 hg6 hm6)
            have Hb6 := Lib.hid ((below_step (Hnd.out _).1 (Hnd.out _).1.size (Hbl.out _).1).grown hg6 (Nat.le_trans (Hnd.out _).1.size (Hbl.out _).1.size) hr9)
            have Ho6 : Hid (w6.ownsRow w.heap.size 31 2 v6 (shrinkTo xs (k + 1)).length (rcs (shrinkTo xs (k + 1)))) := Lib.hid (by
              rw [Hst.out, List.length_append, show rcs (shrinkTo xs k ++ [x]) = rcs (shrinkTo xs k) ++ rcs [x] from cs2_append _ _]; exact hown6)
            clear hown6 hg6 hm6
            go_roundw
            case rel => exact ⟨k + 1, _, by omega, by go_num, rfl, Hb6, Ho6⟩
            case measure => simp [intOf]; omega
      · have hk' : k = xs.length := by omega
        subst hk'
        go_wp2_with fail
        go_ret
        exact ⟨_, rfl, by rw [Hyes.out]; exact own_of Hown.out, Hb.out⟩

end Go.Proofs.Ytkfbgoahppfelaa
