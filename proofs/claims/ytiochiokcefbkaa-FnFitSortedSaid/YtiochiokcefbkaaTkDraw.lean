/- The walks of the draws of weights and of numbers of trucks: what they give, and that they leave all other memory alone. -/
import Derived.Test.YtiochiokcefbkaaDraw2
import Derived.Test.YtiochiokcefbkaaTk5
namespace Go.Proofs.Ytiochiokcefbkaa
open Go.RowKit
set_option linter.unusedVariables false

/-- A list of numbers that can be read, and that does not lie in block R. -/
def Nums (w : World) (R : Nat) (v : Value) (xs : List Int) : Prop := ∃ A c, v = .slice A xs.length c ∧ Rd w A (ints xs) ∧ xs.length ≤ c ∧ ∀ ad, A = some ad → ad.block ≠ R
theorem own_nums {w : World} {B R n : Nat} {v : Value} {xs : List Int} (h : w.ownsRow B 3 1 v n (ints xs)) (hR : R < B) : Nums w R v xs := by
  obtain ⟨A, c, e, hc, _, hr, hb⟩ := own_form h
  have hl := h.1
  rw [ints_length, Nat.mul_one] at hl
  subst hl
  refine ⟨A, c, e, hr, hc, fun ad e2 => ?_⟩
  obtain ⟨g, rfl, hg, _⟩ := hb ad e2
  simp; omega
theorem Nums.below {w w' : World} {R : Nat} {v : Value} {xs : List Int} (h : Nums w R v xs) (hb : Below w.heap.size w w') : Nums w' R v xs := by
  obtain ⟨A, c, e, hr, hc, hn⟩ := h
  exact ⟨A, c, e, hr.below hb, hc, hn⟩
theorem Nums.drawn {w w' : World} {R : Nat} {v : Value} {xs : List Int} (h : Nums w R v xs) (hb : w.grownBy w' (some R)) : Nums w' R v xs := by
  obtain ⟨A, c, e, hr, hc, hn⟩ := h
  exact ⟨A, c, e, hr.grown hb (fun ad e2 e3 => hn ad e2 (by injection e3)), hc, hn⟩
theorem Nums.tail {w : World} {R n : Nat} {A : Option Addr} {c : Nat} {x : Int} {xs : List Int} (h : Nums w R (.slice A n c) (x :: xs)) : Nums w R (.slice (Option.map (fun x => { block := x.block, off := x.off + 1 }) A) (n - 1) (c - 1)) xs := by
  obtain ⟨A', c2, e, hr, hc, hn⟩ := h
  injection e with e1 e2 e3
  subst e1 e2 e3
  obtain ⟨ad, e4, _⟩ := hr 0 _ rfl
  subst e4
  exact ⟨_, c - 1, by simp, hr.tail1, by simp at hc; omega, fun ad2 e5 => by injection e5 with e5; subst e5; exact hn ad rfl⟩
theorem Nums.none {w : World} {R n : Nat} {A : Option Addr} {c : Nat} {x : Int} {xs : List Int} (h : Nums w R (.slice A n c) (x :: xs)) (hn : n = 1) (c' : Nat) : Nums w R (.slice A (n - 1) c') xs := by
  obtain ⟨A', c2, e, hr, hc, hne⟩ := h
  injection e with e1 e2 e3
  subst e1
  cases xs with
  | nil => exact ⟨A, c', by simp [hn], Rd.nil _ _, Nat.zero_le _, hne⟩
  | cons y ys => simp at e2; omega
theorem own_drawn {w w' : World} {B R n : Nat} {v : Value} {xs : List Int} (h : w.ownsRow B 3 1 v n (ints xs)) (hR : R < B) (hg : w.grownBy w' (some R)) : w'.ownsRow B 3 1 v n (ints xs) := by
  refine h.kept hg ?_
  cases e : v.ownBlock with
  | none => exact .inl rfl
  | some g => exact .inr (fun e2 => by injection e2 with e2; have := (h.lt g e).1; omega)

set_option maxHeartbeats 1600000 in
theorem weights_any (R p : Nat) (w : World) (h : Reader w R p) (hp : p ≤ 549755813888) :
    Calls Try.prog 50 #[.pointer (some ⟨R, 0, none⟩)] w fun e w' => ∃ v ws cap p', e = .returned (.tuple #[v, .int .i64 cap]) ∧ Nums w' R v ws ∧ ws.length ≤ 20 ∧ p' ≤ p + 20 ∧ Dst w R p' w' := by
  have hR := h.lt
  obtain ⟨i0, hi, hz0, hz1, hz2⟩ := info_parts int_info
  have hn0 := num_lit R p w.heap.size 4 #[.int .i64 10, .int .i64 20, .int .i64 7, .int .i64 100] [10, 20, 7, 100] w h (by omega) rfl rfl rfl (by simp) (by simp)
  have Hn0 := Lib.hid hn0
  have Hd0 := Lib.hid (Dst.start h)
  clear hn0
  go_enter Try.func50, Try.ntmps50
  go_wp2_with fail
  refine (Hn0.out).mono ?_
  rintro e w1 ⟨cap, rfl, hcap, hr1, hg1⟩
  have hcb : 7 ≤ cap ∧ cap ≤ 100 := by simp at hcap; omega
  have hs1 := hg1.size
  have Ho0 : Hid ((w1.alloc (.cells #[] 3)).ownsRow w.heap.size 3 1 (.slice (some ⟨w1.heap.size, 0, none⟩) 0 0) 0 (ints [])) := Lib.hid (World.ownsRow_lit w1 #[] 0 hs1 (Nat.zero_le _) rfl)
  have hd1 := (Hd0.out.step hg1 hr1).alloc (.cells #[] 3)
  have hn1 := num_lit R (p + 1) (w1.heap.size + 1) 7 #[.int .i64 5, .int .i64 6, .int .i64 4, .int .i64 7, .int .i64 8, .int .i64 3, .int .i64 0] [5, 6, 4, 7, 8, 3, 0] _ hd1.reader (by omega) (by rw [World.size_alloc]) rfl rfl (by simp) (by simp)
  have Hd1 := Lib.hid hd1
  have Hn1 := Lib.hid hn1
  clear hn1 hcap hg1 hr1 hd1 Hd0
  go_wp2_with fail
  refine (Hn1.out).mono ?_
  rintro e w2 ⟨n, rfl, hn, hr2, hg2⟩
  have hnb : ∃ m : Nat, n = (m : Int) ∧ m ≤ 8 := ⟨n.toNat, by simp at hn; omega⟩
  obtain ⟨m, rfl, hm⟩ := hnb
  have Ho2 := Lib.hid (own_drawn Ho0.out hR hg2)
  have Hd2 := Lib.hid (Hd1.out.step hg2 hr2)
  clear hn hr2 hg2 Hd1 Ho0
  go_wp2_with fail
  go_loopw [5, 6] (fun v i wr => ∃ j k : Nat, j + k = m ∧ i = .int .i64 j ∧ Hid (Dst w R (p + 2 + k) wr) ∧ Hid (∃ xs, wr.ownsRow w.heap.size 3 1 v k (ints xs))) (fun _ i _ => (intOf i).toNat)
  case atStart => exact ⟨m, 0, rfl, rfl, Hd2, Lib.hid ⟨[], Ho2.out⟩⟩
  case round =>
    obtain ⟨j, k, hk, rfl, hd, ho⟩ := hrel
    obtain ⟨xs, hown⟩ := ho.out
    clear Ho2 Hd2 Hn1 Hn0 ho
    have Hown := Lib.hid hown
    clear hown
    by_cases hj : 0 < j
    · have hpk := pick_any R (p + 2 + k) cap wr hd.out.reader (by omega) (by omega)
      go_wp2_with fail
      refine hpk.mono ?_
      rintro e w3 ⟨x, rfl, hx, hr3, hg3⟩
      have hxb := hx.pos (by omega)
      have hown3 := own_drawn Hown.out hR hg3
      have hlt3 := hown3.lt
      have hd3 := hd.out.step hg3 hr3
      have hs3 := hd3.size
      have Hd3 := Lib.hid hd3
      have Hown3 := Lib.hid hown3
      clear Hown hown3 hr3 hg3 hd3 hd hx hpk
      go_wp2_with ((at_builtin; refine wpList_append_own _ rfl (.tmp 18) (.tmp 23) 22 rfl _ 3 i0 _ 1 8 Try.underlying22 hi hz0 hz1 hz2 rfl (by decide) _ _ _ rfl (World.ownsRow.alloc Hown3.out _) ⟨w3.heap.size, 0, none⟩ 1 1 [.int .i64 (1 + x)] rfl rfl (cell_new1 _ _ _) (oneCell1 _) (by unfold maxLen; omega) (by omega) (by simp; omega) ?_; intro v' w4 hown4 hg4 _))
      exact ⟨⟨j - 1, k + 1, by omega, by go_num, Lib.hid ((Hd3.out.alloc _).own hR hg4 (fun g e => (hlt3 g e).1)), Lib.hid ⟨_, by rw [← ints_one, ← ints_append] at hown4; exact hown4⟩⟩, by simp [intOf]; omega⟩
    · have hk' : k = m := by omega
      have hpk := pick_any R (p + 2 + k) 20 wr hd.out.reader (by omega) (by omega)
      go_wp2_with fail
      refine hpk.mono ?_
      rintro e w3 ⟨r, rfl, hr, hr3, hg3⟩
      have hown3 := own_drawn Hown.out hR hg3
      have hlt3 := hown3.lt
      have hd3 := hd.out.step hg3 hr3
      have hs3 := hd3.size
      have Hd3 := Lib.hid hd3
      have Hown3 := Lib.hid hown3
      clear Hown hown3 hr3 hg3 hd3 hd hr hpk
      by_cases h0 : r = 0
      · subst h0
        have hn4 := num_lit R (p + 2 + k + 1) w3.heap.size 4 #[.int .i64 0, .int .i64 (-1), .int .i64 (cap + 1), .int .i64 9223372036854775807] [0, -1, cap + 1, 9223372036854775807] w3 Hd3.out.reader (by omega) rfl rfl rfl (by simp) (by simp)
        go_wp2_with fail
        refine hn4.mono ?_
        rintro e w4 ⟨x, rfl, hx, hr4, hg4⟩
        have hown4 := own_drawn Hown3.out hR hg4
        have hlt4 := hown4.lt
        have hs4 := (Hd3.out.step hg4 hr4).size
        have Hd4 := Lib.hid (Hd3.out.step hg4 hr4)
        have Hown4 := Lib.hid hown4
        clear Hown3 Hd3 hown4 hr4 hg4 hx hn4
        go_wp2_with ((at_builtin; refine wpList_append_own _ rfl (.tmp 29) (.tmp 35) 22 rfl _ 3 i0 _ 1 8 Try.underlying22 hi hz0 hz1 hz2 rfl (by decide) _ _ _ rfl (World.ownsRow.alloc Hown4.out _) ⟨w4.heap.size, 0, none⟩ 1 1 [.int .i64 (x)] rfl rfl (cell_new1 _ _ _) (oneCell1 _) (by unfold maxLen; omega) (by omega) (by simp; omega) ?_; intro v' w5 hown5 hg5 _))
        rw [← ints_one, ← ints_append] at hown5
        have hd5 := (Hd4.out.alloc _).own hR hg5 (fun g e => (hlt4 g e).1)
        have hl5 := hown5.1
        rw [ints_length] at hl5
        go_ret2
        exact ⟨_, _, _, _, rfl, own_nums hown5 hR, by omega, by omega, hd5⟩
      · have z0 : (r == 0) = false := by simp [h0]
        by_cases h1 : r = 1
        · subst h1
          have hn4 := num_lit R (p + 2 + k + 1) w3.heap.size 4 #[.int .i64 0, .int .i64 1000, .int .i64 1001, .int .i64 1] [0, 1000, 1001, 1] w3 Hd3.out.reader (by omega) rfl rfl rfl (by simp) (by simp)
          go_wp2_with fail
          refine hn4.mono ?_
          rintro e w4 ⟨x, rfl, hx, hr4, hg4⟩
          have Hown4 := Lib.hid (own_drawn Hown3.out hR hg4)
          have Hd4 := Lib.hid (Hd3.out.step hg4 hr4)
          clear Hown3 Hd3 hr4 hg4 hx hn4
          have hl4 := Hown4.out.1
          rw [ints_length] at hl4
          go_wp2_with fail
          go_ret2
          exact ⟨_, _, _, _, rfl, own_nums Hown4.out hR, by omega, by omega, Hd4.out⟩
        · have z1 : (r == 1) = false := by simp [h1]
          by_cases h2 : r = 2
          · subst h2
            go_wp2_with fail
            go_loopw [5] (fun v wr => ∃ n, n ≤ 9 ∧ Hid (Dst w R (p + 2 + k + 1) wr) ∧ Hid (∃ xs, wr.ownsRow w.heap.size 3 1 v n (ints xs))) (fun v _ => 9 - (match v with | .slice _ n _ => n | _ => 0))
            case atStart => exact ⟨k, by omega, Hd3, Lib.hid ⟨xs, Hown3.out⟩⟩
            case round =>
              obtain ⟨n, hn, hd, ho⟩ := hrel
              obtain ⟨ys, hown⟩ := ho.out
              clear Hd3 Hown3 ho
              obtain ⟨A, c, rfl, _⟩ := own_form hown
              have hlt := hown.lt
              have hs := hd.out.size
              have Hown := Lib.hid hown
              clear hown
              by_cases hn9 : n < 9
              · go_wp2_with ((at_builtin; refine wpList_append_own _ rfl (.tmp 49) (.tmp 50) 22 rfl _ 3 i0 _ 1 8 Try.underlying22 hi hz0 hz1 hz2 rfl (by decide) _ _ _ rfl (World.ownsRow.alloc Hown.out _) ⟨wr.heap.size, 0, none⟩ 1 1 [.int .i64 (1)] rfl rfl (cell_new1 _ _ _) (oneCell1 _) (by unfold maxLen; omega) (by omega) (by simp; omega) ?_; intro v' w4 hown4 hg4 _))
                obtain ⟨A4, c4, rfl, _⟩ := own_form hown4
                rw [← ints_one, ← ints_append] at hown4
                exact ⟨⟨n + 1, by omega, Lib.hid ((hd.out.alloc _).own hR hg4 (fun g e => (hlt g e).1)), Lib.hid ⟨_, hown4⟩⟩, by simp; omega⟩
              · go_wp2_with fail
                have hl3 := Hown.out.1
                rw [ints_length] at hl3
                go_ret2
                exact ⟨_, _, _, _, rfl, own_nums Hown.out hR, by omega, by omega, hd.out⟩
          · have z2 : (r == 2) = false := by simp [h2]
            have hl3 := Hown3.out.1
            rw [ints_length] at hl3
            go_wp2_with fail
            go_ret2
            exact ⟨_, _, _, _, rfl, own_nums Hown3.out hR, by omega, by omega, Hd3.out⟩

set_option maxHeartbeats 1600000 in
theorem trucks_any (R p n : Nat) (w : World) (h : Reader w R p) (hp : p ≤ 549755813888) (hn : n ≤ 1000) :
    Calls Try.prog 52 #[.pointer (some ⟨R, 0, none⟩), .int .i64 n] w fun e w' => ∃ v gs p', e = .returned v ∧ Nums w' R v gs ∧ gs.length ≤ n + 1 ∧ p' ≤ p + n + 2 ∧ Dst w R p' w' := by
  have hR := h.lt
  obtain ⟨i0, hi, hz0, hz1, hz2⟩ := info_parts int_info
  have Ho0 : Hid ((w.alloc (.cells #[] 3)).ownsRow w.heap.size 3 1 (.slice (some ⟨w.heap.size, 0, none⟩) 0 0) 0 (ints [])) := Lib.hid (World.ownsRow_lit w #[] 0 (Nat.le_refl _) (Nat.zero_le _) rfl)
  have Hd0 := Lib.hid ((Dst.start h).alloc (.cells #[] 3))
  go_enter Try.func52, Try.ntmps52
  go_wp2_with fail
  go_loopw [5, 6] (fun v i wr => ∃ k : Nat, k ≤ n ∧ i = .int .i64 k ∧ Hid (Dst w R (p + k) wr) ∧ Hid (∃ xs, wr.ownsRow w.heap.size 3 1 v k (ints xs))) (fun _ i _ => n - (intOf i).toNat)
  case atStart => exact ⟨0, by omega, rfl, Hd0, Lib.hid ⟨[], Ho0.out⟩⟩
  case round =>
    obtain ⟨k, hk, rfl, hd, ho⟩ := hrel
    obtain ⟨xs, hown⟩ := ho.out
    clear Ho0 Hd0 ho
    have Hown := Lib.hid hown
    clear hown
    by_cases hj : k < n
    · have hpk := pick_any R (p + k) 4 wr hd.out.reader (by omega) (by omega)
      go_wp2_with fail
      refine hpk.mono ?_
      rintro e w3 ⟨x, rfl, hx, hr3, hg3⟩
      have hown3 := own_drawn Hown.out hR hg3
      have hlt3 := hown3.lt
      have hd3 := hd.out.step hg3 hr3
      have hs3 := hd3.size
      have Hd3 := Lib.hid hd3
      have Hown3 := Lib.hid hown3
      clear Hown hown3 hr3 hg3 hd3 hd hx hpk
      go_wp2_with ((at_builtin; refine wpList_append_own _ rfl (.tmp 13) (.tmp 16) 22 rfl _ 3 i0 _ 1 8 Try.underlying22 hi hz0 hz1 hz2 rfl (by decide) _ _ _ rfl (World.ownsRow.alloc Hown3.out _) ⟨w3.heap.size, 0, none⟩ 1 1 [.int .i64 (x)] rfl rfl (cell_new1 _ _ _) (oneCell1 _) (by unfold maxLen; omega) (by omega) (by simp; omega) ?_; intro v' w4 hown4 hg4 _))
      exact ⟨⟨k + 1, by omega, by go_num, Lib.hid ((Hd3.out.alloc _).own hR hg4 (fun g e => (hlt3 g e).1)), Lib.hid ⟨_, by rw [← ints_one, ← ints_append] at hown4; exact hown4⟩⟩, by simp [intOf]; omega⟩
    · have hk' : n = k := by omega
      subst hk'
      have hpk := pick_any R (p + n) 20 wr hd.out.reader (by omega) (by omega)
      go_wp2_with fail
      refine hpk.mono ?_
      rintro e w3 ⟨r, rfl, hr, hr3, hg3⟩
      have hown3 := own_drawn Hown.out hR hg3
      have hlt3 := hown3.lt
      have hd3 := hd.out.step hg3 hr3
      have hs3 := hd3.size
      have Hd3 := Lib.hid hd3
      have Hown3 := Lib.hid hown3
      clear Hown hown3 hr3 hg3 hd3 hd hr hpk
      by_cases h0 : r = 0
      · subst h0
        have hn4 := num_lit R (p + n + 1) w3.heap.size 5 #[.int .i64 (-1), .int .i64 7, .int .i64 8, .int .i64 0, .int .i64 9223372036854775807] [-1, 7, 8, 0, 9223372036854775807] w3 Hd3.out.reader (by omega) rfl rfl rfl (by simp) (by simp)
        go_wp2_with fail
        refine hn4.mono ?_
        rintro e w4 ⟨x, rfl, hx, hr4, hg4⟩
        have hown4 := own_drawn Hown3.out hR hg4
        have hlt4 := hown4.lt
        have hs4 := (Hd3.out.step hg4 hr4).size
        have Hd4 := Lib.hid (Hd3.out.step hg4 hr4)
        have Hown4 := Lib.hid hown4
        clear Hown3 Hd3 hown4 hr4 hg4 hx hn4
        go_wp2_with ((at_builtin; refine wpList_append_own _ rfl (.tmp 22) (.tmp 26) 22 rfl _ 3 i0 _ 1 8 Try.underlying22 hi hz0 hz1 hz2 rfl (by decide) _ _ _ rfl (World.ownsRow.alloc Hown4.out _) ⟨w4.heap.size, 0, none⟩ 1 1 [.int .i64 (x)] rfl rfl (cell_new1 _ _ _) (oneCell1 _) (by unfold maxLen; omega) (by omega) (by simp; omega) ?_; intro v' w5 hown5 hg5 _))
        rw [← ints_one, ← ints_append] at hown5
        have hd5 := (Hd4.out.alloc _).own hR hg5 (fun g e => (hlt4 g e).1)
        have hl5 := hown5.1
        rw [ints_length] at hl5
        go_ret
        exact ⟨_, _, _, rfl, own_nums hown5 hR, by omega, by omega, hd5⟩
      · have z0 : (r == 0) = false := by simp [h0]
        have hl3 := Hown3.out.1
        rw [ints_length] at hl3
        by_cases h1 : r = 1
        · subst h1
          by_cases hn0 : 0 < n
          · obtain ⟨A, c, hA, hAc, _, hrd, hbs⟩ := own_form Hown3.out
            subst hA
            have hnm := own_nums Hown3.out hR
            cases xs with
            | nil => simp at hl3; omega
            | cons x ys =>
              have Hn := Lib.hid hnm
              clear hrd hbs hnm
              simp only [List.length_cons] at hl3
              go_wp2_with fail
              · go_ret
                exact ⟨_, rfl, _, Hn.out.none (by omega) _, by omega, _, by omega, Hd3.out⟩
              · go_ret
                exact ⟨_, rfl, _, Hn.out.tail, by omega, _, by omega, Hd3.out⟩
          · go_wp2_with fail
            go_ret
            exact ⟨_, _, _, rfl, own_nums Hown3.out hR, by omega, by omega, Hd3.out⟩
        · have z1 : (r == 1) = false := by simp [h1]
          go_wp2_with fail
          go_ret
          exact ⟨_, _, _, rfl, own_nums Hown3.out hR, by omega, by omega, Hd3.out⟩

end Go.Proofs.Ytiochiokcefbkaa
