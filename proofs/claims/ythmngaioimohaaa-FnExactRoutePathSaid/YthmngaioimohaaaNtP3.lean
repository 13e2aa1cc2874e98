
/- The walk of impl.routeOf. -/
import Derived.Test.YthmngaioimohaaaNtP2
namespace Go.Proofs.Ythmngaioimohaaa
open Go.RowKit
set_option linter.unusedVariables false

def natI (l : List Nat) : List Int := l.map fun (a : Nat) => (a : Int)
theorem natI_length (l : List Nat) : (natI l).length = l.length := by simp [natI]
theorem natI_get {l : List Nat} {k i : Nat} (h : l[k]? = some i) : (ints (natI l))[k]? = some (.int .i64 (i : Int)) := ints_get (by simp [natI, h])
theorem natI_snoc (l : List Nat) (j : Nat) : ints (natI l) ++ ints (natI [j]) = ints (natI (l ++ [j])) := by simp [natI, ints]
theorem int_infos : (Try.prog.info? 3).map (fun i => (i.zero, i.size, i.bytes)) = some (some (.int .i64 0), 1, 8) := by kernel_rfl
theorem int_elem : ElemInfo Try.prog 56 3 1 8 := elemInfo_of Try.underlying56 int_infos rfl (by decide)

set_option maxRecDepth 100000 in
set_option maxHeartbeats 800000 in
theorem idx_ints (v : Value) (xs : List Nat) (j : Nat) (w : World) (h : Sl w v xs.length (ints (natI xs))) :
    Calls Try.prog 65 #[v, .int .i64 (j : Int)] w fun e w' => (∃ z : Int, e = .returned (.int .i64 z) ∧ ((j ∈ xs ∧ 0 ≤ z) ∨ (j ∉ xs ∧ z = -1))) ∧ Below w.heap.size w w' := by
  obtain ⟨A, c, rfl, hA, hc1, hc2⟩ := h
  unfold maxLen at hc2
  have HA := Lib.hid hA
  clear hA
  go_enter Try.func65, Try.ntmps65
  go_wp2_with fail
  go_loopw [8] (fun i wr => ∃ k : Nat, k ≤ xs.length ∧ i = .int .i64 k ∧ Hid (Below w.heap.size w wr) ∧ Hid (∀ m, m < k → ∀ y, xs[m]? = some y → y ≠ j)) (fun i _ => xs.length - (intOf i).toNat)
  case atStart => exact ⟨0, Nat.zero_le _, rfl, Lib.hid (Below.refl _ _), Lib.hid (by intro m hm; omega)⟩
  case round =>
    obtain ⟨k, hk, rfl, Hb, hne⟩ := hrel
    by_cases hlt : k < xs.length
    · have hx := List.getElem?_eq_getElem hlt
      generalize xs[k] = x at hx
      obtain ⟨ad, rfl, hcA⟩ := (HA.out.below Hb.out) k _ (natI_get hx)
      have Hx := Lib.hid hx
      clear hx
      by_cases he : x = j
      · have e1 : ((j : Int) == (x : Int)) = true := by simp [he]
        have Hin : Hid (j ∈ xs) := Lib.hid (he ▸ List.mem_of_getElem? Hx.out)
        clear he hne
        go_wp2_with fail
        go_ret
        exact ⟨⟨_, rfl, .inl ⟨Hin.out, by omega⟩⟩, Hb.out⟩
      · have e1 : ((j : Int) == (x : Int)) = false := by simp only [beq_eq_false_iff_ne]; omega
        have Hne : Hid (∀ m, m < k + 1 → ∀ y, xs[m]? = some y → y ≠ j) := Lib.hid fun m hm y hy => by
          rcases Nat.lt_or_ge m k with hl | hl
          · exact hne.out m hl y hy
          · have : m = k := by omega
            subst this
            rw [Hx.out] at hy
            injection hy with hy
            subst hy; exact he
        clear he hne
        go_wp2_with fail
        go_roundw
        case rel => exact ⟨k + 1, by omega, by go_num, Hb, Hne⟩
        case measure => simp [intOf]; omega
    · have hk' : k = xs.length := by omega
      subst hk'
      have Hno : Hid (j ∉ xs) := Lib.hid fun hp => by
        obtain ⟨m, hm⟩ := List.getElem?_of_mem hp
        exact hne.out m (List.getElem?_eq_some_iff.1 hm).1 j hm rfl
      clear hne
      go_wp2_with fail
      go_ret
      exact ⟨⟨_, rfl, .inr ⟨Hno.out, rfl⟩⟩, Hb.out⟩
set_option maxRecDepth 100000 in
set_option maxHeartbeats 400000 in
theorem has_ints (v : Value) (xs : List Nat) (j : Nat) (w : World) (h : Sl w v xs.length (ints (natI xs))) :
    Calls Try.prog 57 #[v, .int .i64 (j : Int)] w fun e w' => e = .returned (.bool (decide (j ∈ xs))) ∧ Below w.heap.size w w' := by
  have HI := Lib.hid (idx_ints v xs j w h)
  clear h
  go_enter Try.func57, Try.ntmps57
  go_wp2_with fail
  refine HI.out.mono ?_
  rintro e w2 ⟨⟨z, rfl, hz⟩, hb⟩
  have Hb := Lib.hid hb
  clear hb HI
  rcases hz with ⟨hin, hz0⟩ | ⟨hni, rfl⟩
  · have Hd : Hid (decide (j ∈ xs) = true) := Lib.hid (decide_eq_true hin)
    clear hin
    go_wp2_with fail
    go_ret
    exact ⟨ret_bool Hd.out.symm, Hb.out⟩
  · have Hd : Hid (decide (j ∈ xs) = false) := Lib.hid (decide_eq_false hni)
    clear hni
    go_wp2_with fail
    go_ret
    exact ⟨ret_bool Hd.out.symm, Hb.out⟩

set_option maxRecDepth 100000 in
set_option maxHeartbeats 3200000 in
theorem impl_route (v : Value) (net : List Off) (i : Nat) (c : ByteArray) (w : World) (h : InO w v net) (hs : SzO net) (hv : Nv net) (hi : i < net.length) (hc : c.size ≤ maxLen) :
    Calls Try.prog 38 #[v, .int .i64 (i : Int), .string c] w fun e w' => ∃ u, e = .returned (.tuple #[u, .int .i64 (pathN net c i).2]) ∧ Own w' w.heap.size w'.heap.size 3 1 u (pathN net c i).1.length (ints (natI (pathN net c i).1)) ∧ Below w.heap.size w w' := by
  have H := Lib.hid h
  have Hs := Lib.hid hs
  have Hv := Lib.hid hv
  have Hc := Lib.hid hc
  have hl8 := hv.len.2
  obtain ⟨A, cc, rfl, hc1, hc2⟩ := h.form
  unfold maxLen at hc2
  have Hl0 : Hid ((w.alloc (.cells #[.int .i64 (i : Int)] 3)).ownsRow w.heap.size 3 1 (.slice (some ⟨w.heap.size, 0, none⟩) 1 1) 1 (ints (natI [i]))) := Lib.hid (World.ownsRow_lit w #[.int .i64 (i : Int)] 1 (Nat.le_refl _) (by unfold maxLen; omega) rfl)
  have Hb0 : Hid (Below w.heap.size w (w.alloc (.cells #[.int .i64 (i : Int)] 3))) := Lib.hid ((Below.refl _ _).alloc (Nat.le_refl _) _)
  clear hs h hv hc
  go_enter Try.func38, Try.ntmps38
  go_wp2_with fail
  go_loopw [8] (fun p wr => ∃ (done : List Nat) (cur : Nat) (C : Option Addr) (cp : Nat), done.length + 1 ≤ net.length ∧ cur < net.length ∧ p = .slice C (done.length + 1) cp ∧ Hid (Pt net c i done cur) ∧ Hid (cur ∉ done) ∧ Hid (Below w.heap.size w wr) ∧ Hid (wr.ownsRow w.heap.size 3 1 (.slice C (done.length + 1) cp) (done.length + 1) (ints (natI (done ++ [cur]))))) (fun p _ => room (net.length + 1) p)
  case atStart => exact ⟨[], i, _, _, by simp; omega, hi, rfl, Lib.hid (pt_zero _ _ _), Lib.hid (by simp), Hb0, Hl0⟩
  case round =>
    obtain ⟨done, cur, C, cp, hdl, hcl, rfl, HP, Hni, Hb, Hown⟩ := hrel
    clear Hl0 Hb0
    obtain ⟨g, rfl⟩ := own_some Hown.out (by omega)
    have hcP : wr.cell? ⟨g, done.length, none⟩ = some (.int .i64 (cur : Int)) := (Hown.out.cellAt _ (by omega)).trans (natI_get (by simp))
    obtain ⟨ad, o, u, rfl, ho, hcA, hcB, hru⟩ := (H.out.below Hb.out).at_ hcl
    have Ho := Lib.hid ho
    have Hru := Lib.hid hru
    obtain ⟨UA, uc, rfl, hu1, hu2, hu3⟩ := hru
    have HQ2 := Lib.hid (Hs.out o (List.mem_of_getElem? ho)).2
    have Hml := Lib.hid (pt_more HP.out hcl Hni.out)
    have Hlen : Hid ((done ++ [cur]).length = done.length + 1) := Lib.hid (by simp)
    clear ho hu1
    go_wp2_with fail
    refine (impl_next _ o.2 c _ Hru.out HQ2.out Hc.out).mono ?_
    rintro e w6 ⟨rfl, hb6⟩
    replace Hown := Lib.hid (own_below Hown.out hb6)
    replace Hb := Lib.hid (below_trans' Hb.out hb6)
    clear hb6 hcA hcB Hru hcP
    cases hnx : nextR o.2 c with
    | none =>
      have Hres := Lib.hid (pt_lost HP.out Ho.out Hni.out hnx)
      have e1 : (none : Option ByteArray).isSome = false := rfl
      clear hnx
      go_wp2_with fail
      go_ret2
      refine ⟨_, by rw [Hres.out]; rfl, ?_, Hb.out⟩
      have h9 := own_of Hown.out
      rw [Hres.out]
      show Own _ _ _ _ _ _ (done ++ [cur]).length _
      rw [Hlen.out]
      exact h9
    | some m =>
      have e1 : (some m).isSome = true := rfl
      by_cases hm : m = here
      · have Hres := Lib.hid (pt_home HP.out Ho.out Hni.out (by rw [hnx, hm]))
        have e2 : ((orE (some m)).toList == [104, 101, 114, 101]) = true := here_yes hm
        clear hnx hm
        go_wp2_with fail
        go_ret2
        refine ⟨_, by rw [Hres.out]; rfl, ?_, Hb.out⟩
        have h9 := own_of Hown.out
        rw [Hres.out]
        show Own _ _ _ _ _ _ (done ++ [cur]).length _
        rw [Hlen.out]
        exact h9
      · have e2 : ((orE (some m)).toList == [104, 101, 114, 101]) = false := here_no hm
        obtain ⟨j, hj⟩ := nxt_some Hv.out Ho.out hnx hm
        have HP2 := Lib.hid (pt_to HP.out Ho.out Hni.out hnx hm hj)
        have Hjl := Lib.hid (nxt_lt (nxt_to Ho.out hnx hm hj))
        have Hof : Hid (offZ net (orE (some m)) = (j : Int)) := Lib.hid (by show offZ net m = _; rw [offZ, hj])
        clear hnx hm hj
        go_wp2_with fail
        refine (impl_off _ net (orE (some m)) _ (H.out.below Hb.out)).mono ?_
        rintro e w7 ⟨rfl, hb7⟩
        rw [Hof.out]
        replace Hown := Lib.hid (own_below Hown.out hb7)
        replace Hb := Lib.hid (below_trans' Hb.out hb7)
        have HC := Lib.hid (has_ints (.slice (some ⟨g, 0, none⟩) (done.length + 1) cp) (done ++ [cur]) j w7 (by have := sl_own Hown.out; rw [Hlen.out]; exact this))
        clear hb7
        go_wp2_with fail
        refine HC.out.mono ?_
        rintro e w8 ⟨rfl, hb8⟩
        replace Hown := Lib.hid (own_below Hown.out hb8)
        replace Hb := Lib.hid (below_trans' Hb.out hb8)
        have Hba : Hid (Below w8.heap.size w8 (w8.alloc (.cells #[.int .i64 (j : Int)] 3))) := Lib.hid ((Below.refl _ _).alloc (Nat.le_refl _) _)
        have Ho4 := Lib.hid (own_below Hown.out Hba.out)
        have Hb4 := Lib.hid (below_trans' Hb.out Hba.out)
        have Hnw := Lib.hid (rd_new w8 (ints (natI [j])) 3)
        have Hms := Lib.hid (natI_snoc (done ++ [cur]) j)
        clear hb8 HC
        by_cases hin : j ∈ done ++ [cur]
        · rw [decide_eq_true hin]
          have Hres := Lib.hid (HP2.out.old hin)
          clear hin
          go_wp2_with (at_builtin; refine wpList_append_rd rfl (.tmp 42) (.tmp 44) 56 rfl int_elem (base := w.heap.size) (.slice (some ⟨g, 0, none⟩) (done.length + 1) cp) (done.length + 1) (ints (natI (done ++ [cur]))) rfl Ho4.out (some ⟨w8.heap.size, 0, none⟩) 1 1 (ints (natI [j])) rfl rfl Hnw.out (ints_oneCell _) (by unfold maxLen; omega) (by omega) Hb4.out.size ?_; intro v9 w9 hown9 hg9 hm9; rw [Hms.out] at hown9; have Hb9 : Hid (Below w.heap.size w w9) := Lib.hid (Hb4.out.grown hg9 Hb4.out.size (fun g e => (Ho4.out.lt g e).1)); have Ho9 := Lib.hid hown9; clear hown9 hg9 hm9)
          go_ret2
          refine ⟨_, by rw [Hres.out]; rfl, ?_, Hb9.out⟩
          have h9 := own_of Ho9.out
          rw [Hres.out]
          show Own _ _ _ _ _ _ (done ++ [cur] ++ [j]).length _
          rw [List.length_append, Hlen.out]
          exact h9
        · rw [decide_eq_false hin]
          have Hnin := Lib.hid hin
          have Hd2 : Hid ((done ++ [cur]).length + 1 ≤ net.length) := Lib.hid (pt_more HP2.out Hjl.out hin).1
          clear hin
          go_wp2_with (at_builtin; refine wpList_append_rd rfl (.tmp 42) (.tmp 44) 56 rfl int_elem (base := w.heap.size) (.slice (some ⟨g, 0, none⟩) (done.length + 1) cp) (done.length + 1) (ints (natI (done ++ [cur]))) rfl Ho4.out (some ⟨w8.heap.size, 0, none⟩) 1 1 (ints (natI [j])) rfl rfl Hnw.out (ints_oneCell _) (by unfold maxLen; omega) (by omega) Hb4.out.size ?_; intro v9 w9 hown9 hg9 hm9; rw [Hms.out] at hown9; have Hb9 : Hid (Below w.heap.size w w9) := Lib.hid (Hb4.out.grown hg9 Hb4.out.size (fun g e => (Ho4.out.lt g e).1)); obtain ⟨C9, cp9, rfl, _, _, _, _⟩ := own_form hown9; have Ho9 := Lib.hid hown9; clear hown9 hg9 hm9)
          go_roundw
          case rel => exact ⟨done ++ [cur], j, C9, cp9, Hd2.out, Hjl.out, by rw [Hlen.out], HP2, Hnin, Hb9, Lib.hid (by rw [Hlen.out]; exact Ho9.out)⟩
          case measure => have := Hd2.out; rw [Hlen.out] at this; simp [room]; omega

end Go.Proofs.Ythmngaioimohaaa
