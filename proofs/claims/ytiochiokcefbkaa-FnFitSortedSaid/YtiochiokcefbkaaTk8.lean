/- The walks of the reference's sorting of weights, and of its FitSorted. -/
import Derived.Test.YtiochiokcefbkaaTk7
namespace Go.Proofs.Ytiochiokcefbkaa
open Go.RowKit
set_option linter.unusedVariables false

theorem own_slice {w : World} {base : Nat} {e : TypeId} {size : Nat} {v : Value} {n : Nat} {cs : List Value} (h : w.ownsRow base e size v n cs) (hne : v ≠ .slice none 0 0) : ∃ g cp, v = .slice (some ⟨g, 0, none⟩) n cp ∧ base ≤ g ∧ g < w.heap.size ∧ n ≤ cp ∧ cp ≤ maxLen := by
  rcases h.2 with ⟨hv, _⟩ | ⟨g, cap, cur, hv, hb, hg, hn, hm, _⟩
  · exact absurd hv hne
  · exact ⟨g, cap, hv, hb, (Array.getElem?_eq_some_iff.1 hg).1, hn, hm⟩

/-- Cells of a part of a row. -/
theorem row_part {w : World} {base : Nat} {e : TypeId} {g n cp : Nat} {cs : List Value} (h : w.ownsRow base e 1 (.slice (some ⟨g, 0, none⟩) n cp) n cs) (o : Nat) : ∀ (j : Nat) (u : Value), (cs.drop o)[j]? = some u → w.cell? ((⟨g, o, none⟩ : Addr).add j) = some u := by
  intro j u hu
  rw [List.getElem?_drop] at hu
  have hl : o + j < n := by
    have h1 := (List.getElem?_eq_some_iff.1 hu).1
    have h2 := h.1
    omega
  rw [Addr.add_lit, h.cellAt (o + j) (by omega)]
  exact hu
theorem row_head {w : World} {base : Nat} {e : TypeId} {g n cp : Nat} {cs : List Value} (h : w.ownsRow base e 1 (.slice (some ⟨g, 0, none⟩) n cp) n cs) (m : Nat) : ∀ (j : Nat) (u : Value), (cs.take m)[j]? = some u → w.cell? ((⟨g, 0, none⟩ : Addr).add j) = some u := by
  intro j u hu
  rw [List.getElem?_take] at hu
  split at hu
  · have := row_part h 0 j u (by simpa using hu)
    exact this
  · cases hu
theorem nats_take (l : List Nat) (k : Nat) : (ints (nats l)).take k = ints (nats (l.take k)) := by simp [ints, nats, List.map_take]
theorem nats_drop (l : List Nat) (k : Nat) : (ints (nats l)).drop k = ints (nats (l.drop k)) := by simp [ints, nats, List.map_drop]
theorem ints_nats_append (a b : List Nat) : ints (nats a) ++ ints (nats b) = ints (nats (a ++ b)) := by simp [ints, nats]

theorem own_pos {w : World} {base : Nat} {e : TypeId} {size : Nat} {v : Value} {n : Nat} {cs : List Value} (h : w.ownsRow base e size v n cs) (hn : 0 < n) : ∃ g cp, v = .slice (some ⟨g, 0, none⟩) n cp ∧ n ≤ cp ∧ cp ≤ maxLen := by
  rcases h.2 with ⟨_, hv⟩ | ⟨g, cap, cur, hv, _, _, hn, hm, _⟩
  · omega
  · exact ⟨g, cap, hv, hn, hm⟩
theorem sortedIx_next {ws : List Int} {k q : Nat} {x : Int} (hx : ws[k]? = some x) (hd : downTo ws (sortedIx ws k) x k = q) : sortedIx ws (k + 1) = insAt (sortedIx ws k) q k := by
  rw [sortedIx, insDesc, getD_of' hx, sortedIx_length, hd]

/-- append([]int{}, out[:q]...) then append(.., i), then append(.., out[q:]...): plain facts on the three worlds. -/
theorem three_len {s : List Nat} {k q i : Nat} (hs : s.length = k) (hq : q ≤ k) : (s.take q).length = q ∧ (s.drop q).length = k - q ∧ insAt s q i = (s.take q ++ [i]) ++ s.drop q := by
  refine ⟨by simp; omega, by simp; omega, by simp [insAt]⟩

set_option maxHeartbeats 1600000 in
theorem sorted_any (A : Option Addr) (c : Nat) (ws : List Int) (w : World) (hA : Rd w A (ints ws)) (hl8 : ws.length ≤ 8) :
    Calls Try.prog 47 #[.slice A ws.length c] w fun e w' => ∃ v, e = .returned v ∧ OwnI w' w.heap.size v (nats (sortedIx ws ws.length)) ∧ Below w.heap.size w w' := by
  obtain ⟨i0, hi, hz0, hz1, hz2⟩ := info_parts int_info
  have hb0 : Below w.heap.size w (w.alloc (.cells #[] 3)) := (Below.refl _ _).alloc (Nat.le_refl _) _
  have Ho0 : Hid ((w.alloc (.cells #[] 3)).ownsRow w.heap.size 3 1 (.slice (some ⟨w.heap.size, 0, none⟩) 0 0) 0 (ints (nats (sortedIx ws 0)))) := Lib.hid (World.ownsRow_lit w #[] 0 (Nat.le_refl _) (Nat.zero_le _) rfl)
  have HA := Lib.hid hA
  have Hb0 := Lib.hid hb0
  clear hA hb0
  go_enter Try.func47, Try.ntmps47
  go_wp2_with fail
  go_loopw [3, 4] (fun v iv wr => ∃ k g cp : Nat, k ≤ ws.length ∧ k ≤ cp ∧ cp ≤ maxLen ∧ iv = .int .i64 k ∧ v = .slice (some ⟨g, 0, none⟩) k cp ∧ Below w.heap.size w wr ∧ Hid (wr.ownsRow w.heap.size 3 1 (.slice (some ⟨g, 0, none⟩) k cp) k (ints (nats (sortedIx ws k))))) (fun _ iv _ => ws.length - (intOf iv).toNat)
  case atStart => exact ⟨0, w.heap.size, 0, Nat.zero_le _, Nat.le_refl _, Nat.zero_le _, rfl, rfl, Hb0.out, Ho0⟩
  case round =>
    obtain ⟨k, g, cp, hk, hkc, hcm, rfl, rfl, hb, hown⟩ := hrel
    clear Ho0 Hb0
    unfold maxLen at hcm
    by_cases hlt : k < ws.length
    · obtain ⟨ad, x, rfl, hx, hcx⟩ := (HA.out.below hb).int hlt
      have Hx := Lib.hid hx
      have HA1 := Lib.hid (HA.out.below hb)
      have Hsl : Hid ((sortedIx ws k).length = k) := Lib.hid (sortedIx_length ws k)
      clear hx
      obtain ⟨wo, rfl⟩ : ∃ wo : World, wo = wr := ⟨_, rfl⟩
      go_wp2_with fail
      go_loopw [5] (fun av wr => ∃ a : Nat, a ≤ k ∧ av = .int .i64 a ∧ (∃ n, wr = wo.drewN n) ∧ Hid (downTo ws (sortedIx ws k) x k = downTo ws (sortedIx ws k) x a)) (fun av _ => (intOf av).toNat)
      case atStart => exact ⟨k, Nat.le_refl _, rfl, ⟨0, rfl⟩, Lib.hid rfl⟩
      case round =>
        obtain ⟨a, hak, rfl, ⟨n, rfl⟩, hd⟩ := hrel
        rcases Nat.eq_zero_or_pos a with rfl | hpos
        · have hdz : Hid (downTo ws (sortedIx ws k) x k = 0) := Lib.hid hd.out
          clear hd
          go_wp2_with fail
          go_quiet (fail)
          obtain ⟨wq, hwq⟩ : ∃ wq, wq = (wo.drewN n).drewN nq := ⟨_, rfl⟩
          have ownq := own_heap (w' := wq) (by rw [hwq]; rfl) hown.out
          have hbq : Below w.heap.size w wq := by rw [hwq]; exact below_drewN (below_drewN hb _) _
          have hgq : g < wq.heap.size := (ownq.lt g rfl).2
          have hbs := hbq.size
          obtain ⟨l1, l2, l3⟩ := three_len (i := k) (q := 0) Hsl.out (by omega)
          have new1 : (wq.alloc (.cells #[] 3)).ownsRow wq.heap.size 3 1 (.slice (some ⟨wq.heap.size, 0, none⟩) 0 0) 0 [] := World.ownsRow_lit wq #[] 0 (Nat.le_refl _) (Nat.zero_le _) rfl
          have k1 : ∀ (j : Nat) (u : Value), (ints (nats ((sortedIx ws k).take (0))))[j]? = some u → (wq.alloc (.cells #[] 3)).cell? ((⟨g, 0, none⟩ : Addr).add j) = some u := by
            rw [← nats_take]; exact row_head (ownq.alloc _) (0)
          have k1l : (ints (nats ((sortedIx ws k).take (0)))).length = (0) * 1 := by rw [ints_length, nats_length, l1, Nat.mul_one]
          have k3l : (ints (nats ((sortedIx ws k).drop (0)))).length = (k - (0)) * 1 := by rw [ints_length, nats_length, l2, Nat.mul_one]
          have k3 : ∀ W : World, Below wq.heap.size wq W → ∀ (j : Nat) (u : Value), (ints (nats ((sortedIx ws k).drop (0))))[j]? = some u → W.cell? ((⟨g, 0, none⟩ : Addr).add j) = some u := by
            intro W hW j u hu
            have hlq : 0 < k := by
              have := (List.getElem?_eq_some_iff.1 hu).1
              omega
            rw [← nats_drop] at hu
            have := row_part (own_below ownq hW) (0) j u hu
            first | exact this | (exfalso; omega)
          have hnext : Hid (sortedIx ws (k + 1) = insAt (sortedIx ws k) (0) k) := Lib.hid (sortedIx_next Hx.out hdz.out)
          rw [← hwq]
          have L1 := Lib.hid k1l
          have L3 := Lib.hid l3
          have K1 := Lib.hid k1
          have K3 := Lib.hid k3
          have K3l := Lib.hid k3l
          clear hwq l1 l2 l3 k1 k1l k3 k3l
          go_wp2_with first | (at_builtin; refine wpList_append_own _ rfl (.tmp 35) (.tmp 38) 22 rfl wq.heap.size 3 i0 _ 1 8 Try.underlying22 hi hz0 hz1 hz2 rfl (by decide) (.slice (some ⟨wq.heap.size, 0, none⟩) 0 0) 0 [] rfl new1 ⟨g, 0, none⟩ (0) (cp) (ints (nats ((sortedIx ws k).take (0)))) rfl L1.out K1.out (ints_oneCell _) (by unfold maxLen; omega) (by omega) (by simp) ?_; intro v1 w1 hown1 hg1 _; have hB1 : Below wq.heap.size wq w1 := ((Below.refl _ _).alloc (Nat.le_refl _) _).grown hg1 (by simp) (by simp [Value.ownBlock]); have hz1' := hB1.size) | (at_builtin; refine wpList_append_own _ rfl (.tmp 40) (.tmp 42) 22 rfl wq.heap.size 3 i0 _ 1 8 Try.underlying22 hi hz0 hz1 hz2 rfl (by decide) v1 _ _ rfl (hown1.alloc _) ⟨w1.heap.size, 0, none⟩ 1 1 [.int .i64 (k : Int)] rfl rfl (cell_new1 _ _ _) (oneCell1 _) (by unfold maxLen; omega) (by omega) (by simp; omega) ?_; intro v2 w2 hown2 hg2 _; have hB2 : Below wq.heap.size wq w2 := (hB1.alloc hz1' _).grown hg2 (by simp; omega) (fun g e => (hown1.lt g e).1); have hz2' := hB2.size) | (at_builtin; refine wpList_append_own _ rfl (.tmp 44) (.tmp 47) 22 rfl wq.heap.size 3 i0 _ 1 8 Try.underlying22 hi hz0 hz1 hz2 rfl (by decide) v2 _ _ rfl hown2 ⟨g, 0, none⟩ (k) (cp) (ints (nats ((sortedIx ws k).drop (0)))) rfl (by have := K3l.out; omega) (K3.out _ hB2) (ints_oneCell _) (by unfold maxLen; omega) (by omega) hz2' ?_; intro v3 w3 hown3 hg3 _; have hB3 : Below wq.heap.size wq w3 := hB2.grown hg3 hz2' (fun g e => (hown2.lt g e).1))
          have e3 : [] ++ ints (nats ((sortedIx ws k).take (0))) ++ [Value.int .i64 (k : Int)] ++ ints (nats ((sortedIx ws k).drop (0))) = ints (nats (sortedIx ws (k + 1))) := by
            rw [hnext.out, L3.out]; simp [ints, nats]
          have n3 : 0 + (0) + 1 + (k) = k + 1 := by omega
          rw [e3, n3] at hown3
          obtain ⟨g3, cp3, rfl, hn3, hm3⟩ := own_pos hown3 (by omega)
          go_roundw
          case rel => exact ⟨k + 1, g3, cp3, by omega, hn3, hm3, by go_num, rfl, hbq.trans (hB3.mono hbs), Lib.hid (own_base hown3 hbs)⟩
          case measure => simp [intOf]; omega
        · obtain ⟨q, rfl⟩ : ∃ q, a = q + 1 := ⟨a - 1, by omega⟩
          have hqs : q < (sortedIx ws k).length := by rw [Hsl.out]; omega
          obtain ⟨y, hy⟩ : ∃ y, (sortedIx ws k)[q]? = some y := ⟨_, List.getElem?_eq_getElem hqs⟩
          have hyk := sortedIx_lt ws k y (List.mem_of_getElem? hy)
          obtain ⟨ad2, xy, e2, hxy, hcy⟩ := HA1.out.int (k := y) (by omega)
          injection e2 with e2
          subst e2
          have hcq : wo.cell? ⟨g, q, none⟩ = some (.int .i64 (y : Int)) := (hown.out.cellAt q (by omega)).trans (ints_get (nats_get hy))
          have Hlt2 : Hid (ws.getD ((sortedIx ws k).getD q 0) 0 < x ↔ xy < x) := Lib.hid (by
            rw [show (sortedIx ws k).getD q 0 = y from by rw [List.getD_eq_getElem?_getD, hy]; rfl, getD_of' hxy])
          clear hy hxy
          by_cases hlt2 : xy < x
          · have Hlt3 := Lib.hid hlt2
            go_wp2_with fail
            go_quiet (fail)
            go_wp2_with fail
            go_roundw
            case rel => exact ⟨q, by omega, rfl, ⟨_, rfl⟩, Lib.hid (by rw [hd.out, downTo_go (Hlt2.out.2 Hlt3.out)])⟩
            case measure => simp [intOf]
          · have Hlt3 := Lib.hid hlt2
            have hdz : Hid (downTo ws (sortedIx ws k) x k = q + 1) := Lib.hid (by rw [hd.out, downTo_stop (fun h => by have := Hlt3.out; have := Hlt2.out.1 h; omega)])
            clear hd
            by_cases hcp : cp = q + 1
            · subst hcp
              go_wp2_with fail
              go_quiet (fail)
              obtain ⟨wq, hwq⟩ : ∃ wq, wq = (wo.drewN n).drewN nq := ⟨_, rfl⟩
              have ownq := own_heap (w' := wq) (by rw [hwq]; rfl) hown.out
              have hbq : Below w.heap.size w wq := by rw [hwq]; exact below_drewN (below_drewN hb _) _
              have hgq : g < wq.heap.size := (ownq.lt g rfl).2
              have hbs := hbq.size
              obtain ⟨l1, l2, l3⟩ := three_len (i := k) (q := q + 1) Hsl.out (by omega)
              have new1 : (wq.alloc (.cells #[] 3)).ownsRow wq.heap.size 3 1 (.slice (some ⟨wq.heap.size, 0, none⟩) 0 0) 0 [] := World.ownsRow_lit wq #[] 0 (Nat.le_refl _) (Nat.zero_le _) rfl
              have k1 : ∀ (j : Nat) (u : Value), (ints (nats ((sortedIx ws k).take (q + 1))))[j]? = some u → (wq.alloc (.cells #[] 3)).cell? ((⟨g, 0, none⟩ : Addr).add j) = some u := by
                rw [← nats_take]; exact row_head (ownq.alloc _) (q + 1)
              have k1l : (ints (nats ((sortedIx ws k).take (q + 1)))).length = (q + 1) * 1 := by rw [ints_length, nats_length, l1, Nat.mul_one]
              have k3l : (ints (nats ((sortedIx ws k).drop (q + 1)))).length = (k - (q + 1)) * 1 := by rw [ints_length, nats_length, l2, Nat.mul_one]
              have k3 : ∀ W : World, Below wq.heap.size wq W → ∀ (j : Nat) (u : Value), (ints (nats ((sortedIx ws k).drop (q + 1))))[j]? = some u → W.cell? ((⟨g, 0, none⟩ : Addr).add j) = some u := by
                intro W hW j u hu
                have hlq : q + 1 < k := by
                  have := (List.getElem?_eq_some_iff.1 hu).1
                  omega
                rw [← nats_drop] at hu
                have := row_part (own_below ownq hW) (q + 1) j u hu
                first | exact this | (exfalso; omega)
              have hnext : Hid (sortedIx ws (k + 1) = insAt (sortedIx ws k) (q + 1) k) := Lib.hid (sortedIx_next Hx.out hdz.out)
              rw [← hwq]
              have L1 := Lib.hid k1l
              have L3 := Lib.hid l3
              have K1 := Lib.hid k1
              have K3 := Lib.hid k3
              have K3l := Lib.hid k3l
              clear hwq l1 l2 l3 k1 k1l k3 k3l
              go_wp2_with first | (at_builtin; refine wpList_append_own _ rfl (.tmp 35) (.tmp 38) 22 rfl wq.heap.size 3 i0 _ 1 8 Try.underlying22 hi hz0 hz1 hz2 rfl (by decide) (.slice (some ⟨wq.heap.size, 0, none⟩) 0 0) 0 [] rfl new1 ⟨g, 0, none⟩ (q + 1) (q + 1) (ints (nats ((sortedIx ws k).take (q + 1)))) rfl L1.out K1.out (ints_oneCell _) (by unfold maxLen; omega) (by omega) (by simp) ?_; intro v1 w1 hown1 hg1 _; have hB1 : Below wq.heap.size wq w1 := ((Below.refl _ _).alloc (Nat.le_refl _) _).grown hg1 (by simp) (by simp [Value.ownBlock]); have hz1' := hB1.size) | (at_builtin; refine wpList_append_own _ rfl (.tmp 40) (.tmp 42) 22 rfl wq.heap.size 3 i0 _ 1 8 Try.underlying22 hi hz0 hz1 hz2 rfl (by decide) v1 _ _ rfl (hown1.alloc _) ⟨w1.heap.size, 0, none⟩ 1 1 [.int .i64 (k : Int)] rfl rfl (cell_new1 _ _ _) (oneCell1 _) (by unfold maxLen; omega) (by omega) (by simp; omega) ?_; intro v2 w2 hown2 hg2 _; have hB2 : Below wq.heap.size wq w2 := (hB1.alloc hz1' _).grown hg2 (by simp; omega) (fun g e => (hown1.lt g e).1); have hz2' := hB2.size) | (at_builtin; refine wpList_append_own _ rfl (.tmp 44) (.tmp 47) 22 rfl wq.heap.size 3 i0 _ 1 8 Try.underlying22 hi hz0 hz1 hz2 rfl (by decide) v2 _ _ rfl hown2 ⟨g, 0, none⟩ (0) (0) (ints (nats ((sortedIx ws k).drop (q + 1)))) rfl (by have := K3l.out; omega) (K3.out _ hB2) (ints_oneCell _) (by unfold maxLen; omega) (by omega) hz2' ?_; intro v3 w3 hown3 hg3 _; have hB3 : Below wq.heap.size wq w3 := hB2.grown hg3 hz2' (fun g e => (hown2.lt g e).1))
              have e3 : [] ++ ints (nats ((sortedIx ws k).take (q + 1))) ++ [Value.int .i64 (k : Int)] ++ ints (nats ((sortedIx ws k).drop (q + 1))) = ints (nats (sortedIx ws (k + 1))) := by
                rw [hnext.out, L3.out]; simp [ints, nats]
              have n3 : 0 + (q + 1) + 1 + (0) = k + 1 := by omega
              rw [e3, n3] at hown3
              obtain ⟨g3, cp3, rfl, hn3, hm3⟩ := own_pos hown3 (by omega)
              go_roundw
              case rel => exact ⟨k + 1, g3, cp3, by omega, hn3, hm3, by go_num, rfl, hbq.trans (hB3.mono hbs), Lib.hid (own_base hown3 hbs)⟩
              case measure => simp [intOf]; omega
            · go_wp2_with fail
              go_quiet (fail)
              obtain ⟨wq, hwq⟩ : ∃ wq, wq = (wo.drewN n).drewN nq := ⟨_, rfl⟩
              have ownq := own_heap (w' := wq) (by rw [hwq]; rfl) hown.out
              have hbq : Below w.heap.size w wq := by rw [hwq]; exact below_drewN (below_drewN hb _) _
              have hgq : g < wq.heap.size := (ownq.lt g rfl).2
              have hbs := hbq.size
              obtain ⟨l1, l2, l3⟩ := three_len (i := k) (q := q + 1) Hsl.out (by omega)
              have new1 : (wq.alloc (.cells #[] 3)).ownsRow wq.heap.size 3 1 (.slice (some ⟨wq.heap.size, 0, none⟩) 0 0) 0 [] := World.ownsRow_lit wq #[] 0 (Nat.le_refl _) (Nat.zero_le _) rfl
              have k1 : ∀ (j : Nat) (u : Value), (ints (nats ((sortedIx ws k).take (q + 1))))[j]? = some u → (wq.alloc (.cells #[] 3)).cell? ((⟨g, 0, none⟩ : Addr).add j) = some u := by
                rw [← nats_take]; exact row_head (ownq.alloc _) (q + 1)
              have k1l : (ints (nats ((sortedIx ws k).take (q + 1)))).length = (q + 1) * 1 := by rw [ints_length, nats_length, l1, Nat.mul_one]
              have k3l : (ints (nats ((sortedIx ws k).drop (q + 1)))).length = (k - (q + 1)) * 1 := by rw [ints_length, nats_length, l2, Nat.mul_one]
              have k3 : ∀ W : World, Below wq.heap.size wq W → ∀ (j : Nat) (u : Value), (ints (nats ((sortedIx ws k).drop (q + 1))))[j]? = some u → W.cell? ((⟨g, q + 1, none⟩ : Addr).add j) = some u := by
                intro W hW j u hu
                have hlq : q + 1 < k := by
                  have := (List.getElem?_eq_some_iff.1 hu).1
                  omega
                rw [← nats_drop] at hu
                have := row_part (own_below ownq hW) (q + 1) j u hu
                first | exact this | (exfalso; omega)
              have hnext : Hid (sortedIx ws (k + 1) = insAt (sortedIx ws k) (q + 1) k) := Lib.hid (sortedIx_next Hx.out hdz.out)
              rw [← hwq]
              have L1 := Lib.hid k1l
              have L3 := Lib.hid l3
              have K1 := Lib.hid k1
              have K3 := Lib.hid k3
              have K3l := Lib.hid k3l
              clear hwq l1 l2 l3 k1 k1l k3 k3l
              go_wp2_with first | (at_builtin; refine wpList_append_own _ rfl (.tmp 35) (.tmp 38) 22 rfl wq.heap.size 3 i0 _ 1 8 Try.underlying22 hi hz0 hz1 hz2 rfl (by decide) (.slice (some ⟨wq.heap.size, 0, none⟩) 0 0) 0 [] rfl new1 ⟨g, 0, none⟩ (q + 1) (cp) (ints (nats ((sortedIx ws k).take (q + 1)))) rfl L1.out K1.out (ints_oneCell _) (by unfold maxLen; omega) (by omega) (by simp) ?_; intro v1 w1 hown1 hg1 _; have hB1 : Below wq.heap.size wq w1 := ((Below.refl _ _).alloc (Nat.le_refl _) _).grown hg1 (by simp) (by simp [Value.ownBlock]); have hz1' := hB1.size) | (at_builtin; refine wpList_append_own _ rfl (.tmp 40) (.tmp 42) 22 rfl wq.heap.size 3 i0 _ 1 8 Try.underlying22 hi hz0 hz1 hz2 rfl (by decide) v1 _ _ rfl (hown1.alloc _) ⟨w1.heap.size, 0, none⟩ 1 1 [.int .i64 (k : Int)] rfl rfl (cell_new1 _ _ _) (oneCell1 _) (by unfold maxLen; omega) (by omega) (by simp; omega) ?_; intro v2 w2 hown2 hg2 _; have hB2 : Below wq.heap.size wq w2 := (hB1.alloc hz1' _).grown hg2 (by simp; omega) (fun g e => (hown1.lt g e).1); have hz2' := hB2.size) | (at_builtin; refine wpList_append_own _ rfl (.tmp 44) (.tmp 47) 22 rfl wq.heap.size 3 i0 _ 1 8 Try.underlying22 hi hz0 hz1 hz2 rfl (by decide) v2 _ _ rfl hown2 ⟨g, q + 1, none⟩ (k - (q + 1)) (cp - (q + 1)) (ints (nats ((sortedIx ws k).drop (q + 1)))) rfl (by have := K3l.out; omega) (K3.out _ hB2) (ints_oneCell _) (by unfold maxLen; omega) (by omega) hz2' ?_; intro v3 w3 hown3 hg3 _; have hB3 : Below wq.heap.size wq w3 := hB2.grown hg3 hz2' (fun g e => (hown2.lt g e).1))
              have e3 : [] ++ ints (nats ((sortedIx ws k).take (q + 1))) ++ [Value.int .i64 (k : Int)] ++ ints (nats ((sortedIx ws k).drop (q + 1))) = ints (nats (sortedIx ws (k + 1))) := by
                rw [hnext.out, L3.out]; simp [ints, nats]
              have n3 : 0 + (q + 1) + 1 + (k - (q + 1)) = k + 1 := by omega
              rw [e3, n3] at hown3
              obtain ⟨g3, cp3, rfl, hn3, hm3⟩ := own_pos hown3 (by omega)
              go_roundw
              case rel => exact ⟨k + 1, g3, cp3, by omega, hn3, hm3, by go_num, rfl, hbq.trans (hB3.mono hbs), Lib.hid (own_base hown3 hbs)⟩
              case measure => simp [intOf]; omega
    · have hk' : k = ws.length := by omega
      subst hk'
      go_wp2_with fail
      go_ret
      exact ⟨_, rfl, ownI_of hown.out, hb⟩

set_option maxHeartbeats 800000 in
theorem spec_fsd (A : Option Addr) (c : Nat) (ws : List Int) (cap : Int) (w : World) (hA : Rd w A (ints ws)) (hn : ws.length ≤ maxLen) :
    Calls Try.prog 31 #[.slice A ws.length c, .int .i64 cap] w fun e w' => ∃ v, e = .returned v ∧ OwnI w' w.heap.size v (fsd ws cap) ∧ Below w.heap.size w w' := by
  cases hw : wv ws cap
  · have Hf := Lib.hid (fsd_no hw)
    go_enter Try.func31, Try.ntmps31
    go_wp2_with (go_at_call 15; refine (spec_wv _ _ _ _ _ hA hn).mono ?_; rintro e w' ⟨rfl, rfl⟩)
    go_ret
    exact ⟨_, rfl, by rw [Hf.out]; exact ownI_lit0 w, (Below.refl _ _).alloc (Nat.le_refl _) _⟩
  · have Hf := Lib.hid (fsd_yes hw)
    have hl8 := (wv_parts hw).2.1
    have Hw := Lib.hid hw
    go_enter Try.func31, Try.ntmps31
    go_wp2_with (go_at_call 15; refine (spec_wv _ _ _ _ _ hA hn).mono ?_; rintro e w' ⟨rfl, rfl⟩)
    refine (sorted_any A c ws _ hA hl8).mono ?_
    rintro e w1 ⟨v, rfl, ho, hb⟩
    obtain ⟨C, d, rfl, hC, _⟩ := ho.rdn (n := ws.length) (by simp [nats, sortedIx_length])
    have hfit := spec_fit A C c d ws (sortedIx ws ws.length) cap w1 (hA.below hb) hC Hw.out (sortedIx_lt ws ws.length) (by rw [sortedIx_length]; exact Nat.le_refl _)
    rw [sortedIx_length] at hfit
    have Hfit := Lib.hid hfit
    clear hfit hC ho
    go_wp2_with fail
    refine (Hfit.out).mono ?_
    rintro e w2 ⟨v2, rfl, ho2, hb2⟩
    go_wp2_with fail
    go_ret
    exact ⟨_, rfl, by rw [Hf.out]; exact ho2.base hb.size, below_trans' hb hb2⟩

end Go.Proofs.Ytiochiokcefbkaa
