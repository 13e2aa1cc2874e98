
/- The walks of what joins trays to one batch, TraysValid and EmptyTrays. -/
import Derived.Test.YtfhnjpjlpddpmaaDoorTy5
import Derived.Test.YtfhnjpjlpddpmaaDoorTy3
import Derived.Test.YtfhnjpjlpddpmaaDoorApp
namespace Go.Proofs.YtfhnjpjlpddpmaaDoor
open Go.RowKit
set_option linter.unusedVariables false

theorem startS (w : World) (xss : List (List Ltr)) : Below w.heap.size w (w.alloc (.cells #[] 35)) ∧ (w.alloc (.cells #[] 35)).ownsRow w.heap.size 35 2 (.slice (some ⟨w.heap.size, 0, none⟩) 0 0) (xss.take 0).flatten.length (lcs (xss.take 0).flatten) := ⟨(Below.refl _ _).alloc (Nat.le_refl _) _, World.ownsRow_lit w #[] 0 (Nat.le_refl _) (Nat.zero_le _) rfl⟩
theorem startI (w : World) (xss : List (List Ltr)) : Below w.heap.size w w ∧ w.ownsRow w.heap.size 35 2 (.slice none 0 0) (xss.take 0).flatten.length (lcs (xss.take 0).flatten) := ⟨Below.refl _ _, World.ownsRow_nil _ _ _ _⟩
set_option maxRecDepth 100000 in
set_option maxHeartbeats 800000 in
theorem joinS (v : Value) (xss : List (List Ltr)) (w : World) (h : LtS w v xss) (hn : xss.flatten.length ≤ 1048576) :
    Calls Tryd.prog 30 #[v] w fun e w' => ∃ u, e = .returned u ∧ Own w' w.heap.size w'.heap.size 35 2 u xss.flatten.length (lcs xss.flatten) ∧ Below w.heap.size w w' := by
  obtain ⟨us, ⟨A, c, rfl, hA, hc1, hc2⟩, hus⟩ := h
  unfold maxLen at hc2
  have HA := Lib.hid hA
  have Hus := Lib.hid hus
  have Hul := Lib.hid hus.len
  clear hA hus
  obtain ⟨hb0, hst⟩ := startS w xss
  have Hb0 := Lib.hid hb0
  have Hst := Lib.hid hst
  clear hb0 hst
  go_enter Tryd.func30, Tryd.ntmps30
  go_wp2_with fail
  go_loopw [3, 4] (fun o i wr => ∃ (k : Nat) (u0 : Value), k ≤ us.length ∧ i = .int .i64 k ∧ u0 = o ∧ Below w.heap.size w wr ∧ Hid (wr.ownsRow w.heap.size 35 2 u0 (xss.take k).flatten.length (lcs (xss.take k).flatten))) (fun _ i _ => us.length - (intOf i).toNat)
  case atStart => exact ⟨0, _, Nat.zero_le _, rfl, rfl, Hb0.out, Hst⟩
  case round =>
    obtain ⟨k, u0, hk, rfl, rfl, hb, hown⟩ := hrel
    clear Hb0 Hst
    by_cases hkl : k < us.length
    · obtain ⟨p, x, hp, hx, hpx⟩ := Hus.out.at_ (k := k) (by have := Hul.out; omega)
      obtain ⟨ad, rfl, hcA⟩ := (HA.out.below hb) k _ hp
      obtain ⟨PA, pc, rfl, hpr, hpc1, hpc2⟩ := hpx.below hb
      have hfl := flat_len_snoc hx
      have hft := flat_take_le xss (k + 1)
      have Hx := Lib.hid hx
      have Hown := Lib.hid hown.out
      clear hx hp hpx hown
      go_wp2_with (at_builtin; refine wpList_append_rd rfl (.tmp 12) (.tmp 16) 33 rfl ltr_elem (base := w.heap.size) u0 (xss.take k).flatten.length (lcs (xss.take k).flatten) rfl Hown.out PA x.length pc (lcs x) rfl (cs2_length x) hpr (lcs_oneCell x) (by unfold maxLen; omega) (by omega) hb.size ?_; intro v5 w5 hown5 hg5 hmv5)
      have hb5 : Below w.heap.size w w5 := hb.grown hg5 hb.size (fun g e => (Hown.out.lt g e).1)
      have hown6 : Hid (w5.ownsRow w.heap.size 35 2 v5 (xss.take (k + 1)).flatten.length (lcs (xss.take (k + 1)).flatten)) := Lib.hid (by rw [hfl, flat_snoc Hx.out]; rw [← cs2_append] at hown5; exact hown5)
      clear hown5 hg5 hmv5 hpr Hown
      go_roundw
      case rel => exact ⟨k + 1, _, by omega, by go_num, rfl, hb5, hown6⟩
      case measure => simp [intOf]; omega
    · have hk' : k = us.length := by omega
      subst hk'
      have Hown := Lib.hid hown.out
      clear hown
      have ht : xss.take us.length = xss := List.take_of_length_le (by have := Hul.out; omega)
      rw [ht] at Hown
      clear ht
      go_wp2_with fail
      go_ret
      exact ⟨_, rfl, own_of Hown.out, hb⟩
set_option maxRecDepth 100000 in
set_option maxHeartbeats 800000 in
theorem joinI (v : Value) (xss : List (List Ltr)) (w : World) (h : LtS w v xss) (hn : xss.flatten.length ≤ 1048576) :
    Calls Tryd.prog 25 #[v] w fun e w' => ∃ u, e = .returned u ∧ Own w' w.heap.size w'.heap.size 35 2 u xss.flatten.length (lcs xss.flatten) ∧ Below w.heap.size w w' := by
  obtain ⟨us, ⟨A, c, rfl, hA, hc1, hc2⟩, hus⟩ := h
  unfold maxLen at hc2
  have HA := Lib.hid hA
  have Hus := Lib.hid hus
  have Hul := Lib.hid hus.len
  clear hA hus
  obtain ⟨hb0, hst⟩ := startI w xss
  have Hb0 := Lib.hid hb0
  have Hst := Lib.hid hst
  clear hb0 hst
  go_enter Tryd.func25, Tryd.ntmps25
  go_wp2_with fail
  go_loopw [3, 8] (fun o i wr => ∃ (k : Nat) (u0 : Value), k ≤ us.length ∧ i = .int .i64 k ∧ u0 = o ∧ Below w.heap.size w wr ∧ Hid (wr.ownsRow w.heap.size 35 2 u0 (xss.take k).flatten.length (lcs (xss.take k).flatten))) (fun _ i _ => us.length - (intOf i).toNat)
  case atStart => exact ⟨0, _, Nat.zero_le _, rfl, rfl, Hb0.out, Hst⟩
  case round =>
    obtain ⟨k, u0, hk, rfl, rfl, hb, hown⟩ := hrel
    clear Hb0 Hst
    by_cases hkl : k < us.length
    · obtain ⟨p, x, hp, hx, hpx⟩ := Hus.out.at_ (k := k) (by have := Hul.out; omega)
      obtain ⟨ad, rfl, hcA⟩ := (HA.out.below hb) k _ hp
      obtain ⟨PA, pc, rfl, hpr, hpc1, hpc2⟩ := hpx.below hb
      have hfl := flat_len_snoc hx
      have hft := flat_take_le xss (k + 1)
      have Hx := Lib.hid hx
      have Hown := Lib.hid hown.out
      clear hx hp hpx hown
      go_wp2_with (at_builtin; refine wpList_append_rd rfl (.tmp 12) (.tmp 13) 33 rfl ltr_elem (base := w.heap.size) u0 (xss.take k).flatten.length (lcs (xss.take k).flatten) rfl Hown.out PA x.length pc (lcs x) rfl (cs2_length x) hpr (lcs_oneCell x) (by unfold maxLen; omega) (by omega) hb.size ?_; intro v5 w5 hown5 hg5 hmv5)
      have hb5 : Below w.heap.size w w5 := hb.grown hg5 hb.size (fun g e => (Hown.out.lt g e).1)
      have hown6 : Hid (w5.ownsRow w.heap.size 35 2 v5 (xss.take (k + 1)).flatten.length (lcs (xss.take (k + 1)).flatten)) := Lib.hid (by rw [hfl, flat_snoc Hx.out]; rw [← cs2_append] at hown5; exact hown5)
      clear hown5 hg5 hmv5 hpr Hown
      go_roundw
      case rel => exact ⟨k + 1, _, by omega, by go_num, rfl, hb5, hown6⟩
      case measure => simp [intOf]; omega
    · have hk' : k = us.length := by omega
      subst hk'
      have Hown := Lib.hid hown.out
      clear hown
      have ht : xss.take us.length = xss := List.take_of_length_le (by have := Hul.out; omega)
      rw [ht] at Hown
      clear ht
      go_wp2_with fail
      go_ret
      exact ⟨_, rfl, own_of Hown.out, hb⟩

theorem flat_le {xss : List (List Ltr)} {m : Nat} (h : ∀ t ∈ xss, t.length ≤ m) : xss.flatten.length ≤ xss.length * m := by
  induction xss with
  | nil => simp
  | cons x l ih =>
    have h1 := h x (by simp)
    have h2 := ih fun t ht => h t (by simp [ht])
    rw [List.flatten_cons, List.length_append, List.length_cons, Nat.add_mul]; omega
theorem szs_flat {xss : List (List Ltr)} (h : ∀ xs ∈ xss, Szs xs) : Szs xss.flatten := fun x hx => by
  obtain ⟨xs, h1, h2⟩ := List.mem_flatten.1 hx
  exact h xs h1 x h2
theorem tv_last {xss : List (List Ltr)} {size : Int} (h : (xss.take xss.length).all (fun t => inB t.length 1 size) = true) (h1 : inB size 1 20 = true) (h2 : xss.length ≤ 60) : tv xss size = bv xss.flatten := by
  rw [tv_end h, h1, decide_eq_true h2]; rfl
theorem all_len {xss : List (List Ltr)} {size : Int} (h : (xss.take xss.length).all (fun t => inB t.length 1 size) = true) : ∀ t ∈ xss, 1 ≤ t.length ∧ (t.length : Int) ≤ size := by
  rw [List.take_length] at h
  intro t ht
  have := inB_true.1 (List.all_eq_true.1 h t ht)
  omega

set_option maxRecDepth 100000 in
set_option maxHeartbeats 800000 in
theorem spec_tv (v : Value) (xss : List (List Ltr)) (size : Int) (w : World) (h : LtS w v xss) (hs : ∀ xs ∈ xss, Szs xs) :
    Calls Tryd.prog 14 #[v, .int .i64 size] w fun e w' => e = .returned (.bool (tv xss size)) ∧ Below w.heap.size w w' := by
  have Hv := Lib.hid h
  obtain ⟨us, ⟨A, c, rfl, hA, hc1, hc2⟩, hus⟩ := h
  unfold maxLen at hc2
  have Hs := Lib.hid hs
  have HA := Lib.hid hA
  have Hus := Lib.hid hus
  have Hul := Lib.hid hus.len
  clear hs hA hus
  go_enter Tryd.func14, Tryd.ntmps14
  go_wp2_with fail
  go_loopw [5] (fun i wr => ∃ k : Nat, k ≤ us.length ∧ i = .int .i64 k ∧ w = wr ∧ Hid ((xss.take k).all (fun t => inB t.length 1 size) = true)) (fun i _ => us.length - (intOf i).toNat)
  case atStart => exact ⟨0, Nat.zero_le _, rfl, rfl, Lib.hid (by simp)⟩
  case round =>
    obtain ⟨k, hk, rfl, rfl, hall⟩ := hrel
    by_cases hkl : k < us.length
    · obtain ⟨p, x, hp, hx, hpx⟩ := Hus.out.at_ (k := k) (by have := Hul.out; omega)
      obtain ⟨ad, rfl, hcA⟩ := HA.out k _ hp
      obtain ⟨PA, pc, rfl, _, _, _⟩ := hpx
      have Hx := Lib.hid hx
      clear hx hp
      go_wp2_with fail
      refine (in_any _ _ _ _).mono ?_
      rintro e w' ⟨rfl, rfl⟩
      cases hin : inB x.length 1 size with
      | false =>
        have Hno := Lib.hid (tv_no Hx.out hin)
        clear hin
        go_wp2_with fail
        go_ret
        exact ⟨ret_bool Hno.out.symm, Below.refl _ _⟩
      | true =>
        have Hall : Hid ((xss.take (k + 1)).all (fun t => inB t.length 1 size) = true) := Lib.hid (all_snoc hall.out Hx.out hin)
        clear hin hall
        go_wp2_with fail
        go_roundw
        case rel => exact ⟨k + 1, by omega, by go_num, by first | rfl | trivial, Hall⟩
        case measure => simp [intOf]; omega
    · have hk' : k = us.length := by omega
      subst hk'
      have hall' := hall.out
      rw [Hul.out] at hall'
      have Hall := Lib.hid hall'
      clear hall hall'
      go_wp2_with fail
      refine (size_spec _ _).mono ?_
      rintro e w' ⟨rfl, rfl⟩
      cases h2 : inB size 1 20 with
      | false =>
        have Hno := Lib.hid (tv_size (ts := xss) h2)
        clear h2
        go_wp2_with fail
        go_ret
        exact ⟨ret_bool Hno.out.symm, Below.refl _ _⟩
      | true =>
        by_cases h60 : us.length ≤ 60
        · have hb2 := inB_true.1 h2
          have hfl : xss.flatten.length ≤ xss.length * 20 := flat_le fun t ht => by have := all_len Hall.out t ht; omega
          have hj := joinS _ xss w Hv.out (by have := Hul.out; omega)
          have Hj := Lib.hid hj
          have Hl := Lib.hid (tv_last Hall.out h2 (by have := Hul.out; omega))
          have hd : decide ((us.length : Int) ≤ 60) = true := decide_eq_true (by omega)
          clear hj h2
          go_wp2_with fail
          refine Hj.out.mono ?_
          rintro e w2 ⟨u, rfl, ho, hb⟩
          have hbv := spec_bv u _ w2 ho.sl (szs_flat Hs.out)
          have Hbv := Lib.hid hbv
          clear ho hbv Hj
          go_wp2_with fail
          refine Hbv.out.mono ?_
          rintro e w3 ⟨rfl, hb3⟩
          go_wp2_with fail
          go_ret
          exact ⟨ret_bool (by first | exact Hl.out.symm | simp [Hl.out]), below_trans' hb hb3⟩
        · have Hno := Lib.hid (tv_many (ts := xss) (size := size) (by have := Hul.out; omega))
          clear h2
          go_wp2_with fail
          go_ret
          exact ⟨ret_bool Hno.out.symm, Below.refl _ _⟩

set_option maxRecDepth 100000 in
set_option maxHeartbeats 800000 in
theorem impl_tv (v : Value) (xss : List (List Ltr)) (size : Int) (w : World) (h : LtS w v xss) (hs : ∀ xs ∈ xss, Szs xs) :
    Calls Tryd.prog 11 #[v, .int .i64 size] w fun e w' => e = .returned (.bool (tv xss size)) ∧ Below w.heap.size w w' := by
  have Hv := Lib.hid h
  obtain ⟨us, ⟨A, c, rfl, hA, hc1, hc2⟩, hus⟩ := h
  unfold maxLen at hc2
  have Hs := Lib.hid hs
  have HA := Lib.hid hA
  have Hus := Lib.hid hus
  have Hul := Lib.hid hus.len
  clear hs hA hus
  cases h2 : inB size 1 20 with
  | false =>
    have Hno := Lib.hid (tv_size (ts := xss) h2)
    go_enter Tryd.func11, Tryd.ntmps11
    go_wp2_with fail
    refine (size_impl _ _).mono ?_
    rintro e w' ⟨rfl, rfl⟩
    rw [h2]
    go_wp2_with fail
    go_ret
    exact ⟨ret_bool Hno.out.symm, Below.refl _ _⟩
  | true =>
    by_cases h60 : us.length ≤ 60
    · have hb2 := inB_true.1 h2
      have H2 := Lib.hid h2
      clear h2
      go_enter Tryd.func11, Tryd.ntmps11
      go_wp2_with fail
      refine (size_impl _ _).mono ?_
      rintro e w' ⟨rfl, rfl⟩
      rw [H2.out]
      go_wp2_with fail
      go_loopw [5, 18] (fun c i wr => ∃ k m : Nat, k ≤ us.length ∧ i = .int .i64 k ∧ c = .int .i64 m ∧ m ≤ 60 ∧ w = wr ∧ Hid ((xss.take k).all (fun t => inB t.length 1 size) = true) ∧ Hid ((xss.take k).flatten.length = m)) (fun _ i _ => us.length - (intOf i).toNat)
      case atStart => exact ⟨0, 0, Nat.zero_le _, rfl, rfl, Nat.zero_le _, rfl, Lib.hid (by simp), Lib.hid (by simp)⟩
      case round =>
        obtain ⟨k, m, hk, rfl, rfl, hm, rfl, hall, hml⟩ := hrel
        by_cases hkl : k < us.length
        · obtain ⟨p, x, hp, hx, hpx⟩ := Hus.out.at_ (k := k) (by have := Hul.out; omega)
          obtain ⟨ad, rfl, hcA⟩ := HA.out k _ hp
          have hxm := hpx.le
          unfold maxLen at hxm
          obtain ⟨PA, pc, rfl, _, _, _⟩ := hpx
          have Hx := Lib.hid hx
          clear hx hp
          by_cases hl1 : x.length < 1
          · have Hno := Lib.hid (tv_no (size := size) Hx.out (inB_false.2 (.inl (by omega))))
            go_wp2_with fail
            go_ret
            exact ⟨ret_bool Hno.out.symm, Below.refl _ _⟩
          by_cases hl2 : size < x.length
          · have Hno := Lib.hid (tv_no (size := size) Hx.out (inB_false.2 (.inr (by omega))))
            go_wp2_with fail
            go_ret
            exact ⟨ret_bool Hno.out.symm, Below.refl _ _⟩
          have hsn := flat_len_snoc Hx.out
          have Hall : Hid ((xss.take (k + 1)).all (fun t => inB t.length 1 size) = true) := Lib.hid (all_snoc hall.out Hx.out (inB_true.2 (by omega)))
          by_cases hl3 : 60 < m + x.length
          · have Hno : Hid (tv xss size = false) := Lib.hid (tv_bv (bv_long (by have := flat_take_le xss (k + 1); have := hml.out; omega)))
            clear hall
            go_wp2_with fail
            go_ret
            exact ⟨ret_bool Hno.out.symm, Below.refl _ _⟩
          · have Hml : Hid ((xss.take (k + 1)).flatten.length = m + x.length) := Lib.hid (by have := hml.out; omega)
            clear hall hsn hml
            go_wp2_with fail
            go_roundw
            case rel => exact ⟨k + 1, m + x.length, by omega, by go_num, by go_num, by omega, by first | rfl | trivial, Hall, Hml⟩
            case measure => simp [intOf]; omega
        · have hk' : k = us.length := by omega
          subst hk'
          have hall' := hall.out
          rw [Hul.out] at hall'
          have Hall := Lib.hid hall'
          clear hall hall'
          have hfl : xss.flatten.length ≤ xss.length * 20 := flat_le fun t ht => by have := all_len Hall.out t ht; omega
          have hj := joinI _ xss w Hv.out (by have := Hul.out; omega)
          have Hj := Lib.hid hj
          have Hl := Lib.hid (tv_last Hall.out H2.out (by have := Hul.out; omega))
          clear hj hml
          go_wp2_with fail
          refine Hj.out.mono ?_
          rintro e w2 ⟨u, rfl, ho, hb⟩
          have hbv := impl_bv u _ w2 ho.sl (szs_flat Hs.out)
          have Hbv := Lib.hid hbv
          clear ho hbv Hj
          go_wp2_with fail
          refine Hbv.out.mono ?_
          rintro e w3 ⟨rfl, hb3⟩
          go_wp2_with fail
          go_ret
          exact ⟨ret_bool (by first | exact Hl.out.symm | simp [Hl.out]), below_trans' hb hb3⟩
    · have Hno := Lib.hid (tv_many (ts := xss) (size := size) (by have := Hul.out; omega))
      go_enter Tryd.func11, Tryd.ntmps11
      go_wp2_with fail
      refine (size_impl _ _).mono ?_
      rintro e w' ⟨rfl, rfl⟩
      rw [h2]
      go_wp2_with fail
      go_ret
      exact ⟨ret_bool Hno.out.symm, Below.refl _ _⟩

end Go.Proofs.YtfhnjpjlpddpmaaDoor
