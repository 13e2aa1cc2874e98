
/- The walks of what draws orders. -/
import Derived.Test.YtefgfdehinpbaaaTyDrawD
import Derived.Test.YtefgfdehinpbaaaTyDrawB
import Derived.Test.YtefgfdehinpbaaaFw4
namespace Go.Proofs.Ytefgfdehinpbaaa
open Go.RowKit
set_option linter.unusedVariables false

set_option maxRecDepth 100000 in
set_option maxHeartbeats 400000 in
theorem code4_any (R p : Nat) (w : World) (h : Reader w R p) (hp : p ≤ 549755813888) :
    Calls Try.prog 36 #[.pointer (some ⟨R, 0, none⟩)] w fun e w' => ∃ s : ByteArray, e = .returned (.string s) ∧ s.size = 7 ∧ Dst w R (p + 1) w' := by
  have H1 := Lib.hid (pick_any R p 9 w h (by omega) (by omega))
  have Hd0 := Lib.hid (Dst.start h)
  clear h
  go_enter Try.func36, Try.ntmps36
  go_wp2_with fail
  refine H1.out.mono ?_
  rintro e w1 ⟨a, rfl, ha, hr1, hg1⟩
  obtain ⟨n, rfl, hn⟩ := nat_of (ha.pos (by omega))
  have Hd1 := Lib.hid (Hd0.out.step hg1 hr1)
  have H2 := Lib.hid (show_any n 2 w1 (by omega) (by omega))
  clear ha hr1 hg1 H1 Hd0
  go_wp2_with fail
  refine H2.out.mono ?_
  rintro e w2 ⟨⟨s, rfl, z, d⟩, hb⟩
  have z5 : (⟨#[49, 50, 48, 48, 49]⟩ : ByteArray).size = 5 := rfl
  go_wp2_with fail
  go_ret
  exact ⟨_, rfl, by rw [ByteArray.size_append, z5]; omega, Hd1.out.below hb⟩

/-- Orders of which no string is long. -/
def SmF (m : Nat) (xs : List Fwd) : Prop := ∀ x ∈ xs, x.1.size ≤ m ∧ x.2.size ≤ m
theorem SmF.set {m : Nat} {xs : List Fwd} {k : Nat} {y : Fwd} (h : SmF m xs) (hy : y.1.size ≤ m ∧ y.2.size ≤ m) : SmF m (xs.set k y) := by
  intro x hx
  rcases List.mem_or_eq_of_mem_set hx with h1 | h1
  · exact h x h1
  · rw [h1]; exact hy
theorem SmF.snoc {m : Nat} {xs : List Fwd} {y : Fwd} (h : SmF m xs) (hy : y.1.size ≤ m ∧ y.2.size ≤ m) : SmF m (xs ++ [y]) := by
  intro x hx
  rcases List.mem_append.1 hx with h1 | h1
  · exact h x h1
  · simp at h1; subst h1; exact hy
theorem SmF.szf {m : Nat} {xs : List Fwd} (h : SmF m xs) (hm : m ≤ 1000) : Szf xs := fun x hx => by have := h x hx; unfold maxLen; omega
theorem fcs_set2 {xs : List Fwd} {k : Nat} {x : Fwd} (h : xs[k]? = some x) (s : ByteArray) : (fcs xs).set (k * 2 + 1) (.string s) = fcs (xs.set k (x.1, s)) := by
  obtain ⟨h0, h1⟩ := cs2_get (f := ftf) h
  have e : fcs (xs.set k (x.1, s)) = cs2 ftf (xs.set k (x.1, s)) := rfl
  rw [e, ← cs2_set]
  apply List.ext_getElem?
  intro j
  by_cases hj : k * 2 + 1 = j
  · subst hj
    have hl := (List.getElem?_eq_some_iff.1 h1).1
    rw [List.getElem?_set_self hl, List.getElem?_set_self (by rw [List.length_set]; exact hl)]
    rfl
  · rw [List.getElem?_set_ne hj, List.getElem?_set_ne hj]
    by_cases hj2 : k * 2 = j
    · subst hj2
      rw [List.getElem?_set_self (List.getElem?_eq_some_iff.1 h0).1, h0]
      rfl
    · rw [List.getElem?_set_ne hj2]
theorem in6' {x a b c d e f : Int} {m : Nat} (h : x ∈ [a, b, c, d, e, f]) (ha : 0 ≤ a ∧ a ≤ m) (hb : 0 ≤ b ∧ b ≤ m) (hc : 0 ≤ c ∧ c ≤ m) (hd : 0 ≤ d ∧ d ≤ m) (he : 0 ≤ e ∧ e ≤ m) (hf : 0 ≤ f ∧ f ≤ m) : ∃ n : Nat, x = (n : Int) ∧ n ≤ m := by
  simp at h
  refine ⟨x.toNat, ?_, ?_⟩ <;> rcases h with h | h | h | h | h | h <;> omega
theorem box4 (W : World) (x : Fwd) : (W.alloc (.cells #[.string x.1, .string x.2] 34)).cell? ⟨W.heap.size, 0, none⟩ = some (.string x.1) ∧ (W.alloc (.cells #[.string x.1, .string x.2] 34)).cell? ⟨W.heap.size, 1, none⟩ = some (.string x.2) := by
  constructor
  · rw [World.cell?_alloc_at _ _ _ _ rfl]; rfl
  · rw [World.cell?_alloc_at _ _ _ _ rfl]; rfl
theorem cell4_later {W w' : World} {a : Addr} {u : Value} (hb : Below W.heap.size W w') (h : W.cell? a = some u) : w'.cell? a = some u := (hb.cell (World.block_lt_of_cell? W _ h)).trans h

set_option maxRecDepth 100000 in
set_option maxHeartbeats 1600000 in
theorem orders_any (R p : Nat) (w : World) (h : Reader w R p) (hp : p ≤ 274877906944) :
    Calls Try.prog 34 #[.pointer (some ⟨R, 0, none⟩)] w fun e w' => ∃ (v : Value) (xs : List Fwd) (q : Nat), e = .returned v ∧ w'.ownsRow w.heap.size 34 2 v xs.length (fcs xs) ∧ xs.length ≤ 8 ∧ SmF 7 xs ∧ q ≤ p + 17 ∧ Dst w R q w' := by
  have hR := h.lt
  have Ho0 : Hid ((w.alloc (.cells #[] 34)).ownsRow w.heap.size 34 2 (.slice (some ⟨w.heap.size, 0, none⟩) 0 0) 0 (fcs [])) := Lib.hid (World.ownsRow_lit w #[] 0 (Nat.le_refl _) (Nat.zero_le _) rfl)
  have Hd0 := Lib.hid ((Dst.start h).alloc (.cells #[] 34))
  have hn := num_lit R p (w.heap.size + 1) 6 #[.int .i64 4, .int .i64 3, .int .i64 6, .int .i64 2, .int .i64 8, .int .i64 0] [4, 3, 6, 2, 8, 0] _ Hd0.out.reader (by omega) (by rw [World.size_alloc]) rfl rfl (by simp) (by simp)
  have Hn := Lib.hid hn
  clear hn h
  go_enter Try.func34, Try.ntmps34
  go_wp2_with fail
  refine Hn.out.mono ?_
  rintro e w1 ⟨x, rfl, hx, hr1, hg1⟩
  obtain ⟨N, rfl, hN⟩ := in6' (m := 8) hx (by omega) (by omega) (by omega) (by omega) (by omega) (by omega)
  have Ho1 := Lib.hid (own_past Ho0.out hR hg1)
  have Hd1 := Lib.hid (Hd0.out.step hg1 hr1)
  clear Hn Ho0 Hd0 hx hr1 hg1
  go_wp2_with fail
  go_loopw [3, 4] (fun v i wr => ∃ (k q : Nat) (xs : List Fwd) (u0 : Value), k + xs.length ≤ N ∧ i = .int .i64 k ∧ u0 = v ∧ q + 2 * k ≤ p + 17 ∧ Hid (Dst w R q wr) ∧ Hid (wr.ownsRow w.heap.size 34 2 u0 xs.length (fcs xs)) ∧ Hid (SmF 7 xs)) (fun _ i _ => (intOf i).toNat)
  case atStart => exact ⟨N, p + 1, [], _, by simp, rfl, rfl, by omega, Hd1, Ho1, Lib.hid (by simp [SmF])⟩
  case round =>
    obtain ⟨k, q, xs, u0, hkN, rfl, rfl, hq, Hd, Ho, Hx⟩ := hrel
    clear Hd1 Ho1
    by_cases hk : 0 < k
    · have hk1 : (0 : Int) < k := by omega
      obtain ⟨C, cp, rfl, _, _, _, _⟩ := own_form Ho.out
      have H1 := Lib.hid (code4_any R q wr Hd.out.reader (by omega))
      go_wp2_with fail
      refine H1.out.mono ?_
      rintro e w2 ⟨s, rfl, hs, hd2⟩
      have Hd2 := Lib.hid (Hd.out.step hd2.grown hd2.reader)
      have Ho2 := Lib.hid (own_past Ho.out hR hd2.grown)
      have H2 := Lib.hid (code4_any R (q + 1) w2 hd2.reader (by omega))
      clear H1 hd2 Ho Hd
      go_wp2_with fail
      refine H2.out.mono ?_
      rintro e w3 ⟨t, rfl, ht, hd3⟩
      have hb3 := (newF w3 (s, t)).1
      have Hd3 := Lib.hid ((Hd2.out.step hd3.grown hd3.reader).below hb3)
      have Ho3 := Lib.hid (own_below (own_past Ho2.out hR hd3.grown) hb3)
      have hc0 := (box4 w3 (s, t)).1
      have hc1 := (box4 w3 (s, t)).2
      have H3 := Lib.hid (spec_idx (.slice C xs.length cp) xs s _ (sl_own Ho3.out))
      clear H2 hd3 Ho2 Hd2 hb3
      go_wp2_with fail
      refine H3.out.mono ?_
      rintro e w4 ⟨rfl, hb4⟩
      have hv0 := cell4_later hb4 hc0
      have hv1 := cell4_later hb4 hc1
      have Hd4 := Lib.hid (Hd3.out.below hb4)
      have Ho4 := Lib.hid (own_below Ho3.out hb4)
      clear hc0 hc1 hb4 H3 Hd3 Ho3
      generalize idxI xs s = ix at *
      by_cases hix : ix < 0
      · have Hd5 := Lib.hid (Hd4.out.below (newF w4 (s, t)).1)
        have Ho5 := Lib.hid (own_below Ho4.out (newF w4 (s, t)).1)
        have Hnw := Lib.hid (newF w4 (s, t)).2
        clear Hd4 Ho4
        go_wp2_with (at_builtin; refine wpList_append_rd rfl (.tmp 24) (.tmp 26) 23 rfl fwd_elem (base := w.heap.size) (.slice C xs.length cp) xs.length (fcs xs) rfl Ho5.out (some ⟨w4.heap.size, 0, none⟩) 1 1 (fcs [(s, t)]) rfl rfl Hnw.out (fcs_oneCell _) (by unfold maxLen; omega) (by omega) Hd5.out.size ?_; intro v5 w5 hown5 hg5 hm5)
        have Ho6 : Hid (w5.ownsRow w.heap.size 34 2 v5 (xs ++ [(s, t)]).length (fcs (xs ++ [(s, t)]))) := Lib.hid (by rw [List.length_append, show fcs (xs ++ [(s, t)]) = fcs xs ++ fcs [(s, t)] from cs2_append _ _]; exact hown5)
        have Hd6 := Lib.hid (Hd5.out.own hR hg5 (fun g e => (Ho5.out.lt g e).1))
        have Hx6 := Lib.hid (Hx.out.snoc (y := (s, t)) ⟨by show s.size ≤ 7; omega, by show t.size ≤ 7; omega⟩)
        have hl5 : (xs ++ [(s, t)]).length = xs.length + 1 := by simp
        clear hown5 hg5 hm5 Ho5 Hd5 Hnw Hx
        go_roundw
        case rel => exact ⟨k - 1, q + 1 + 1, _, _, by omega, by go_num, rfl, by omega, Hd6, Ho6, Hx6⟩
        case measure => simp [intOf]; omega
      · have hix' : ¬ ix < 0 := hix
        go_wp2_with fail
        go_roundw
        case rel => exact ⟨k - 1, q + 1 + 1, xs, _, by omega, by go_num, rfl, by omega, Hd4, Ho4, Hx⟩
        case measure => simp [intOf]; omega
    · have hk' : k = 0 := by omega
      subst hk'
      go_wp2_with fail
      go_ret
      exact ⟨_, xs, q, rfl, Ho.out, by omega, Hx.out, by omega, Hd.out⟩

end Go.Proofs.Ytefgfdehinpbaaa
