
/- The walks of AddRule. -/
import Derived.Test.YtkfbgoahppfelaaNt4
import Derived.Test.YtkfbgoahppfelaaCopy
namespace Go.Proofs.Ytkfbgoahppfelaa
open Go.RowKit
set_option linter.unusedVariables false

def addL (rs : List Rul) (p n : ByteArray) : List Rul := match addR rs p n with | some l => l | none => []
def addB (rs : List Rul) (p n : ByteArray) : Bool := (addR rs p n).isSome
theorem addR_no1 {rs : List Rul} {p n : ByteArray} (h : rv rs = false) : addL rs p n = [] ∧ addB rs p n = false := by simp [addL, addB, addR, h]
theorem addR_no2 {rs : List Rul} {p n : ByteArray} (h : rv (putR rs p n) = false) : addL rs p n = [] ∧ addB rs p n = false := by simp [addL, addB, addR, h]
theorem addR_yes {rs : List Rul} {p n : ByteArray} (h1 : rv rs = true) (h : rv (putR rs p n) = true) : addL rs p n = putR rs p n ∧ addB rs p n = true := by simp [addL, addB, addR, h1, h]
theorem szs_le {m : Nat} : ∀ {xs : List Rul}, (∀ x ∈ xs, x.1.size + x.2.size ≤ m) → szs xs ≤ xs.length * m
  | [], _ => by simp [szs]
  | x :: xs, h => by
    have h1 := h x (by simp)
    have h2 := szs_le (xs := xs) fun y hy => h y (by simp [hy])
    have e : szs (x :: xs) = x.1.size + x.2.size + szs xs := by simp [szs]
    rw [e, List.length_cons, Nat.add_mul]; omega
theorem rv_sizes {xs : List Rul} (h : rv xs = true) : ∀ x ∈ xs, x.1.size ≤ 7 ∧ x.2.size ≤ 8 := fun x hx => by
  have hp := rv_parts h
  have h1 := (preB_parts (hp.pre x hx)).1
  have h2 := hp.name x hx
  refine ⟨h1, ?_⟩
  rcases Nat.lt_or_ge 8 x.2.size with h3 | h3
  · rw [nameB_low (.inr h3)] at h2; cases h2
  · exact h3
theorem rv_small {xs : List Rul} (h : rv xs = true) : SmR xs := by
  have hl := (rv_parts h).len
  have hb := szs_le (m := 15) fun x hx => by have := rv_sizes h x hx; omega
  exact ⟨by omega, by omega⟩
theorem rv_szr {xs : List Rul} (h : rv xs = true) : Szr xs := fun x hx => by have := rv_sizes h x hx; unfold maxLen; omega
theorem small_nil : SmR [] := ⟨by simp, by simp [szs]⟩
theorem addL_small (rs : List Rul) (p n : ByteArray) : SmR (addL rs p n) := by
  cases h1 : rv rs with
  | false => rw [(addR_no1 h1).1]; exact small_nil
  | true =>
    cases h : rv (putR rs p n) with
    | false => rw [(addR_no2 h).1]; exact small_nil
    | true => rw [(addR_yes h1 h).1]; exact rv_small h
theorem put_szr {rs : List Rul} {p n : ByteArray} (h : Szr rs) (hp : p.size ≤ maxLen) (hn : n.size ≤ maxLen) : Szr (putR rs p n) := by
  unfold putR
  split
  · intro x hx
    rcases List.mem_or_eq_of_mem_set hx with h1 | h1
    · exact h x h1
    · rw [h1]; exact ⟨hp, hn⟩
  · intro x hx
    rcases List.mem_append.1 hx with h1 | h1
    · exact h x h1
    · simp at h1; subst h1; exact ⟨hp, hn⟩
theorem put_none {rs : List Rul} {p n : ByteArray} (h : idxR rs p = none) : putR rs p n = rs ++ [(p, n)] := by rw [putR, h]
theorem put_some {rs : List Rul} {p n : ByteArray} {i : Nat} (h : idxR rs p = some i) : putR rs p n = rs.set i (p, n) := by rw [putR, h]
theorem rcs_set2 {xs : List Rul} {k : Nat} {x : Rul} (h : xs[k]? = some x) (s : ByteArray) : (rcs xs).set (k * 2 + 1) (.string s) = rcs (xs.set k (x.1, s)) := by
  obtain ⟨h0, h1⟩ := cs2_get (f := rtf) h
  have e : rcs (xs.set k (x.1, s)) = cs2 rtf (xs.set k (x.1, s)) := rfl
  rw [e, ← cs2_set]
  apply List.ext_getElem?
  intro j
  by_cases hj : k * 2 + 1 = j
  · subst hj
    have hl := (List.getElem?_eq_some_iff.1 h1).1
    rw [List.getElem?_set_self hl, List.getElem?_set_self (by rw [List.length_set]; exact hl)]
    rfl
  · rw [List.getElem?_set_ne hj, List.getElem?_set_ne hj]
    by_cases hj2 : k * 2 = j
    · subst hj2
      rw [List.getElem?_set_self (List.getElem?_eq_some_iff.1 h0).1, h0]
      rfl
    · rw [List.getElem?_set_ne hj2]
theorem own_lit0 (w : World) : Own (w.alloc (.cells #[] 31)) w.heap.size (w.alloc (.cells #[] 31)).heap.size 31 2 (.slice (some ⟨w.heap.size, 0, none⟩) 0 0) 0 (rcs []) := own_of (World.ownsRow_lit w #[] 0 (Nat.le_refl _) (Nat.zero_le _) rfl)

set_option maxHeartbeats 400000 in
theorem copy_rules (v : Value) (xs : List Rul) (w : World) (h : Rt w v xs) (hn : xs.length ≤ 1048576) :
    Calls Try.prog 57 #[v] w fun e w' => ∃ u, e = .returned u ∧ w'.ownsRow w.heap.size 31 2 u xs.length (rcs xs) ∧ Below w.heap.size w w' := by
  obtain ⟨A, c, rfl, hA, hc1, hc2⟩ := h
  have HA := Lib.hid hA
  clear hA
  obtain ⟨i0, hi, hz0, hz1, hz2⟩ := info_parts rul_info
  go_enter Try.func57, Try.ntmps57
  go_wp2_with (first | (at_make; refine wpList_make_full _ rfl _ _ _ rfl w.heap.size 31 i0 _ 2 Try.underlying23 hi hz0 hz1 _ _ _ _ xs.length rfl rfl rfl rfl (by rw [hz2]; omega) (by unfold maxLen; omega) (Nat.le_refl _) ?_; intro w1 hown1 hg1; have Hb1 : Hid (Below w.heap.size w w1) := Lib.hid ((Below.refl _ _).grown hg1 (Nat.le_refl _) (by simp)); have Hown1 := Lib.hid hown1; have HA1 := Lib.hid (HA.out.below Hb1.out); clear hown1 hg1) | (refine wpList_copy_rd (by rfl) (.tmp 7) (.tmp 8) 23 23 (by rfl) (base := w.heap.size) (e := 31) (size := 2) Try.underlying23 (by rw [hi]; simp [hz1]) (by omega) (.slice (some ⟨w.heap.size, 0, none⟩) xs.length xs.length) xs.length _ (by rfl) Hown1.out A c (rcs xs) (by rfl) (cs2_length xs) HA1.out (rcs_oneCell xs) ?_; intro w2 hown2 hg2))
  have Hown2 := Lib.hid hown2
  have Hb2 := Lib.hid (Hb1.out.grown hg2 Hb1.out.size (fun g e => (Hown1.out.lt g e).1))
  go_wp2_with fail
  go_ret
  exact ⟨_, rfl, Hown2.out, Hb2.out⟩

theorem ret_tup {u : Value} {a b : Bool} (h : a = b) : Ending.returned (.tuple #[u, .bool b]) = .returned (.tuple #[u, .bool a]) := by rw [h]
theorem nil_spec {w w10 : World} {L : List Rul} (h : L = []) (hb : Below w.heap.size w w10) : OR (w10.alloc (.cells #[] 31)) w.heap.size (w10.alloc (.cells #[] 31)).heap.size (.slice (some ⟨w10.heap.size, 0, none⟩) 0 0) L := by
  subst h; exact (own_lit0 w10).wide hb.size (Nat.le_refl _)
theorem nil_impl {w w10 : World} {L : List Rul} (h : L = []) : OR w10 w.heap.size w10.heap.size (.slice none 0 0) L := by
  subst h; exact own_nil _ _ _ _ _

set_option maxRecDepth 100000 in
set_option maxHeartbeats 1600000 in
theorem impl_add (v : Value) (xs : List Rul) (p n : ByteArray) (w : World) (h : Rt w v xs) (hs : Szr xs) (hl : xs.length ≤ 1048576) (hp : p.size ≤ maxLen) (hn : n.size ≤ maxLen) :
    Calls Try.prog 18 #[v, .string p, .string n] w fun e w' => ∃ u, e = .returned (.tuple #[u, .bool (addB xs p n)]) ∧ OR w' w.heap.size w'.heap.size u (addL xs p n) ∧ Below w.heap.size w w' := by
  have H1 := Lib.hid (impl_rv v xs w h hs)
  have H := Lib.hid h
  have Hsp := Lib.hid (put_szr hs hp hn)
  clear h hs
  go_enter Try.func18, Try.ntmps18
  go_wp2_with fail
  refine H1.out.mono ?_
  rintro e w1 ⟨rfl, hb1⟩
  have Hb1 := Lib.hid hb1
  cases hrv : rv xs with
  | false =>
    have Hno := Lib.hid (addR_no1 (p := p) (n := n) hrv)
    clear hrv H1 hb1
    go_wp2_with fail
    go_ret2
    exact ⟨_, by rw [Hno.out.2]; rfl, nil_impl Hno.out.1, Hb1.out⟩
  | true =>
    have Hrv := Lib.hid hrv
    have H2 := Lib.hid (copy_rules v xs w1 (H.out.below Hb1.out) hl)
    clear hrv H1 hb1
    go_wp2_with fail
    refine H2.out.mono ?_
    rintro e w2 ⟨u, rfl, ho2, hb2⟩
    have Ho2 := Lib.hid ho2
    have Hb2 := Lib.hid (below_trans' Hb1.out hb2)
    have H3 := Lib.hid (impl_idx v xs p w2 (H.out.below Hb2.out))
    clear H2 ho2 hb2
    go_wp2_with fail
    refine H3.out.mono ?_
    rintro e w3 ⟨rfl, hb3⟩
    have Ho3 := Lib.hid (own_base (own_below Ho2.out hb3) Hb1.out.size)
    have Hb3 := Lib.hid (below_trans' Hb2.out hb3)
    clear H3 hb3 Ho2
    rcases idxI_cases xs p with ⟨hi, hx⟩ | ⟨i, r, hi, hx, hr, hre, hil⟩
    · rw [hi]
      have Hput := Lib.hid (put_none (n := n) hx)
      obtain ⟨C, cp, rfl, _, _, _, _⟩ := own_form Ho3.out
      have Hba : Hid (Below w3.heap.size w3 (w3.alloc (.cells #[.string p, .string n] 31))) := Lib.hid ((Below.refl _ _).alloc (Nat.le_refl _) _)
      have Ho4 := Lib.hid (own_below Ho3.out Hba.out)
      have Hb4 := Lib.hid (below_trans' Hb3.out Hba.out)
      have Hnw := Lib.hid (rd_new w3 (rcs [(p, n)]) 31)
      clear hi hx Ho3
      go_wp2_with (at_builtin; refine wpList_append_rd rfl (.tmp 25) (.tmp 29) 23 rfl rul_elem (base := w.heap.size) (.slice C xs.length cp) xs.length (rcs xs) rfl Ho4.out (some ⟨w3.heap.size, 0, none⟩) 1 1 (rcs [(p, n)]) rfl rfl Hnw.out (rcs_oneCell _) (by unfold maxLen; omega) (by omega) Hb4.out.size ?_; intro v8 w8 hown8 hg8 hm8; have Hown8 : Hid (w8.ownsRow w.heap.size 31 2 v8 (putR xs p n).length (rcs (putR xs p n))) := Lib.hid (by rw [Hput.out, List.length_append, show rcs (xs ++ [(p, n)]) = rcs xs ++ rcs [(p, n)] from cs2_append _ _]; exact hown8); have Hb9 := Lib.hid (Hb4.out.grown hg8 Hb4.out.size (fun g e => (Ho4.out.lt g e).1)); obtain ⟨C8, cp8, rfl, _, _, _, _⟩ := own_form Hown8.out; clear hown8 hg8 hm8 Ho4 Hnw Hput)
      have H5 := Lib.hid (impl_rv (.slice C8 (putR xs p n).length cp8) (putR xs p n) _ (sl_own Hown8.out) Hsp.out)
      cases hpv : rv (putR xs p n) with
      | false =>
        rw [hpv] at H5
        have Hno := Lib.hid (addR_no2 (rs := xs) (p := p) (n := n) hpv)
        clear hpv
        go_wp2_with fail
        refine H5.out.mono ?_
        rintro e w10 ⟨rfl, hb10⟩
        have Hb10 := Lib.hid (below_step Hb9.out Hb9.out.size hb10)
        clear hb10
        go_wp2_with fail
        go_ret2
        exact ⟨_, ret_tup Hno.out.2, nil_impl Hno.out.1, Hb10.out⟩
      | true =>
        rw [hpv] at H5
        have Hyes := Lib.hid (addR_yes Hrv.out hpv)
        clear hpv
        go_wp2_with fail
        refine H5.out.mono ?_
        rintro e w10 ⟨rfl, hb10⟩
        have Hb10 := Lib.hid (below_step Hb9.out Hb9.out.size hb10)
        have Hown10 := Lib.hid (own_below Hown8.out hb10)
        clear hb10
        go_wp2_with fail
        go_ret2
        exact ⟨_, by rw [Hyes.out.2]; rfl, by rw [Hyes.out.1]; exact own_of Hown10.out, Hb10.out⟩
    · rw [hi]
      have Hput := Lib.hid (put_some (n := n) hx)
      obtain ⟨C, cp, rfl, _, _, _, _⟩ := own_form Ho3.out
      obtain ⟨g, rfl⟩ := own_some Ho3.out (by omega)
      have hcB : w3.cell? ⟨g, i * 2 + 1, none⟩ = some (.string r.2) := (Ho3.out.cellAt _ (by omega)).trans (cs2_get (f := rtf) hr).2
      have hfz : w3.frozen? ⟨g, i * 2 + 1, none⟩ = false := Ho3.out.frozenAt _
      have hst := Ho3.out.stored (i * 2 + 1) (.string n)
      rw [rcs_set2 hr, hre] at hst
      have hln : (putR xs p n).length = xs.length := by rw [Hput.out, List.length_set]
      have Hown8 : Hid ((w3.setCell ⟨g, i * 2 + 1, none⟩ (.string n)).ownsRow w.heap.size 31 2 (.slice (some ⟨g, 0, none⟩) (putR xs p n).length cp) (putR xs p n).length (rcs (putR xs p n))) := Lib.hid (by rw [hln, Hput.out]; exact hst.1)
      have Hb9 : Hid (Below w.heap.size w (w3.setCell ⟨g, i * 2 + 1, none⟩ (.string n))) := Lib.hid (Hb3.out.setCell ((Ho3.out.lt g rfl).1) _)
      obtain ⟨C8, hC8⟩ : ∃ C8 : Option Addr, C8 = some ⟨g, 0, none⟩ := ⟨_, rfl⟩
      obtain ⟨cp8, hcp8⟩ : ∃ c8, c8 = cp := ⟨_, rfl⟩
      rw [← hC8, ← hcp8] at Hown8
      have Hln := Lib.hid hln
      have HC8 := Lib.hid hC8
      have Hcp8 := Lib.hid hcp8
      clear hi hx hr hre hst hln hC8 hcp8 Ho3
      have H5 := impl_rv (.slice C8 (putR xs p n).length cp8) (putR xs p n) _ (sl_own Hown8.out) Hsp.out
      rw [Hln.out, HC8.out, Hcp8.out] at H5
      have H5 := Lib.hid H5
      rw [Hln.out, HC8.out, Hcp8.out] at Hown8
      cases hpv : rv (putR xs p n) with
      | false =>
        rw [hpv] at H5
        have Hno := Lib.hid (addR_no2 (rs := xs) (p := p) (n := n) hpv)
        clear hpv
        go_wp2_with fail
        refine H5.out.mono ?_
        rintro e w10 ⟨rfl, hb10⟩
        have Hb10 := Lib.hid (below_step Hb9.out Hb9.out.size hb10)
        clear hb10
        go_wp2_with fail
        go_ret2
        exact ⟨_, by rw [Hno.out.2]; rfl, nil_impl Hno.out.1, Hb10.out⟩
      | true =>
        rw [hpv] at H5
        have Hyes := Lib.hid (addR_yes Hrv.out hpv)
        clear hpv
        go_wp2_with fail
        refine H5.out.mono ?_
        rintro e w10 ⟨rfl, hb10⟩
        have Hb10 := Lib.hid (below_step Hb9.out Hb9.out.size hb10)
        have Hown10 := Lib.hid (own_below Hown8.out hb10)
        clear hb10
        go_wp2_with fail
        go_ret2
        exact ⟨_, by rw [Hyes.out.2]; rfl, by rw [Hyes.out.1]; unfold OR; rw [Hln.out]; exact own_of Hown10.out, Hb10.out⟩

set_option maxRecDepth 100000 in
set_option maxHeartbeats 1600000 in
theorem spec_add (v : Value) (xs : List Rul) (p n : ByteArray) (w : World) (h : Rt w v xs) (hs : Szr xs) (hl : xs.length ≤ 1048576) (hp : p.size ≤ maxLen) (hn : n.size ≤ maxLen) :
    Calls Try.prog 19 #[v, .string p, .string n] w fun e w' => ∃ u, e = .returned (.tuple #[u, .bool (addB xs p n)]) ∧ OR w' w.heap.size w'.heap.size u (addL xs p n) ∧ Below w.heap.size w w' := by
  have H := Lib.hid h
  have Hs := Lib.hid hs
  have Hsp := Lib.hid (put_szr hs hp hn)
  obtain ⟨A, c, rfl, hA, hc1, hc2⟩ := h
  unfold maxLen at hc2
  have Hl0 := Lib.hid (own_lit0 w).row
  have Hb0 : Hid (Below w.heap.size w (w.alloc (.cells #[] 31))) := Lib.hid ((Below.refl _ _).alloc (Nat.le_refl _) _)
  have HA := Lib.hid (hA.below Hb0.out)
  clear hs hA
  go_enter Try.func19, Try.ntmps19
  go_wp2_with (at_builtin; refine wpList_append_rd rfl (.tmp 10) (.tmp 11) 23 rfl rul_elem (base := w.heap.size) (.slice (some ⟨w.heap.size, 0, none⟩) 0 0) 0 (rcs []) rfl Hl0.out A xs.length c (rcs xs) rfl (cs2_length xs) HA.out (rcs_oneCell xs) (by unfold maxLen; omega) (by omega) (by simp) ?_; intro v5 w5 hown5 hg5 hm5; rw [Nat.zero_add, show rcs [] ++ rcs xs = rcs xs from rfl] at hown5; have Hb2 : Hid (Below w.heap.size w w5) := Lib.hid (Hb0.out.grown hg5 (by simp) (fun g e => by cases e; exact Nat.le_refl _)); obtain ⟨C5, cp5, rfl, _, _, _, _⟩ := own_form hown5; have Ho2 := Lib.hid hown5; clear hown5 hg5 hm5)
  have H3 := Lib.hid (spec_idx (.slice C5 xs.length cp5) xs p w5 (sl_own Ho2.out))
  go_wp2_with fail
  refine H3.out.mono ?_
  rintro e w3 ⟨rfl, hb3⟩
  have Ho3 := Lib.hid (own_below Ho2.out hb3)
  have Hb3 := Lib.hid (below_trans' Hb2.out hb3)
  clear H3 hb3 Ho2
  rcases idxI_cases xs p with ⟨hi, hx⟩ | ⟨i, r, hi, hx, hr, hre, hil⟩
  · rw [hi]
    have Hput := Lib.hid (put_none (n := n) hx)
    obtain ⟨C, cp, hCe, _, _, _, _⟩ := own_form Ho3.out
    have Hba : Hid (Below w3.heap.size w3 (w3.alloc (.cells #[.string p, .string n] 31))) := Lib.hid ((Below.refl _ _).alloc (Nat.le_refl _) _)
    have Ho4 := Lib.hid (own_below Ho3.out Hba.out)
    have Hb4 := Lib.hid (below_trans' Hb3.out Hba.out)
    have Hnw := Lib.hid (rd_new w3 (rcs [(p, n)]) 31)
    clear hi hx Ho3 hCe
    go_wp2_with (at_builtin; refine wpList_append_rd rfl (.tmp 18) (.tmp 22) 23 rfl rul_elem (base := w.heap.size) (.slice C5 xs.length cp5) xs.length (rcs xs) rfl Ho4.out (some ⟨w3.heap.size, 0, none⟩) 1 1 (rcs [(p, n)]) rfl rfl Hnw.out (rcs_oneCell _) (by unfold maxLen; omega) (by omega) Hb4.out.size ?_; intro v8 w8 hown8 hg8 hm8; have Hown8 : Hid (w8.ownsRow w.heap.size 31 2 v8 (putR xs p n).length (rcs (putR xs p n))) := Lib.hid (by rw [Hput.out, List.length_append, show rcs (xs ++ [(p, n)]) = rcs xs ++ rcs [(p, n)] from cs2_append _ _]; exact hown8); have Hb9 := Lib.hid (Hb4.out.grown hg8 Hb4.out.size (fun g e => (Ho4.out.lt g e).1)); obtain ⟨C8, cp8, rfl, _, _, _, _⟩ := own_form Hown8.out; clear hown8 hg8 hm8 Ho4 Hnw Hput)
    have H1 := Lib.hid (spec_rv _ xs w8 (H.out.below Hb9.out) Hs.out)
    cases hrv : rv xs with
    | false =>
      rw [hrv] at H1
      have Hno := Lib.hid (addR_no1 (p := p) (n := n) hrv)
      clear hrv
      go_wp2_with fail
      refine H1.out.mono ?_
      rintro e w10 ⟨rfl, hb10⟩
      have Hb10 := Lib.hid (below_step Hb9.out Hb9.out.size hb10)
      clear hb10
      go_wp2_with fail
      go_ret2
      exact ⟨_, by rw [Hno.out.2]; rfl, nil_spec Hno.out.1 Hb10.out, Hb10.out.alloc Hb10.out.size _⟩
    | true =>
      rw [hrv] at H1
      have Hrv := Lib.hid hrv
      clear hrv
      go_wp2_with fail
      refine H1.out.mono ?_
      rintro e w10 ⟨rfl, hb10⟩
      have Hb10 := Lib.hid (below_step Hb9.out Hb9.out.size hb10)
      have Hown10 := Lib.hid (own_below Hown8.out hb10)
      clear hb10
      have H5 := Lib.hid (spec_rv _ (putR xs p n) w10 (sl_own Hown10.out) Hsp.out)
      cases hpv : rv (putR xs p n) with
      | false =>
        rw [hpv] at H5
        have Hno := Lib.hid (addR_no2 (rs := xs) (p := p) (n := n) hpv)
        clear hpv
        go_wp2_with fail
        refine H5.out.mono ?_
        rintro e w11 ⟨rfl, hb11⟩
        have Hb11 := Lib.hid (below_step Hb10.out Hb10.out.size hb11)
        clear hb11
        go_wp2_with fail
        go_ret2
        exact ⟨_, by rw [Hno.out.2]; rfl, nil_spec Hno.out.1 Hb11.out, Hb11.out.alloc Hb11.out.size _⟩
      | true =>
        rw [hpv] at H5
        have Hyes := Lib.hid (addR_yes Hrv.out hpv)
        clear hpv
        go_wp2_with fail
        refine H5.out.mono ?_
        rintro e w11 ⟨rfl, hb11⟩
        have Hb11 := Lib.hid (below_step Hb10.out Hb10.out.size hb11)
        have Hown11 := Lib.hid (own_below Hown10.out hb11)
        clear hb11
        go_wp2_with fail
        go_ret2
        exact ⟨_, by rw [Hyes.out.2]; rfl, by rw [Hyes.out.1]; exact own_of Hown11.out, Hb11.out⟩
  · rw [hi]
    have Hput := Lib.hid (put_some (n := n) hx)
    obtain ⟨g, rfl⟩ := own_some Ho3.out (by omega)
    have hcB : w3.cell? ⟨g, i * 2 + 1, none⟩ = some (.string r.2) := (Ho3.out.cellAt _ (by omega)).trans (cs2_get (f := rtf) hr).2
    have hfz : w3.frozen? ⟨g, i * 2 + 1, none⟩ = false := Ho3.out.frozenAt _
    have hst := Ho3.out.stored (i * 2 + 1) (.string n)
    rw [rcs_set2 hr, hre] at hst
    have hln : (putR xs p n).length = xs.length := by rw [Hput.out, List.length_set]
    have Hown8 : Hid ((w3.setCell ⟨g, i * 2 + 1, none⟩ (.string n)).ownsRow w.heap.size 31 2 (.slice (some ⟨g, 0, none⟩) xs.length cp5) (putR xs p n).length (rcs (putR xs p n))) := Lib.hid (by rw [hln, Hput.out]; exact hst.1)
    have Hb9 : Hid (Below w.heap.size w (w3.setCell ⟨g, i * 2 + 1, none⟩ (.string n))) := Lib.hid (Hb3.out.setCell ((Ho3.out.lt g rfl).1) _)
    clear hi hx hr hre hst hln Ho3
    have H1 := Lib.hid (spec_rv _ xs _ (H.out.below Hb9.out) Hs.out)
    cases hrv : rv xs with
    | false =>
      rw [hrv] at H1
      have Hno := Lib.hid (addR_no1 (p := p) (n := n) hrv)
      clear hrv
      go_wp2_with fail
      refine H1.out.mono ?_
      rintro e w10 ⟨rfl, hb10⟩
      have Hb10 := Lib.hid (below_step Hb9.out Hb9.out.size hb10)
      clear hb10
      go_wp2_with fail
      go_ret2
      exact ⟨_, by rw [Hno.out.2]; rfl, nil_spec Hno.out.1 Hb10.out, Hb10.out.alloc Hb10.out.size _⟩
    | true =>
      rw [hrv] at H1
      have Hrv := Lib.hid hrv
      clear hrv
      go_wp2_with fail
      refine H1.out.mono ?_
      rintro e w10 ⟨rfl, hb10⟩
      have Hb10 := Lib.hid (below_step Hb9.out Hb9.out.size hb10)
      have Hown10 := Lib.hid (own_below Hown8.out hb10)
      clear hb10
      have H5 := Lib.hid (spec_rv _ (putR xs p n) w10 (sl_own Hown10.out) Hsp.out)
      cases hpv : rv (putR xs p n) with
      | false =>
        rw [hpv] at H5
        have Hno := Lib.hid (addR_no2 (rs := xs) (p := p) (n := n) hpv)
        clear hpv
        go_wp2_with fail
        refine H5.out.mono ?_
        rintro e w11 ⟨rfl, hb11⟩
        have Hb11 := Lib.hid (below_step Hb10.out Hb10.out.size hb11)
        clear hb11
        go_wp2_with fail
        go_ret2
        exact ⟨_, by rw [Hno.out.2]; rfl, nil_spec Hno.out.1 Hb11.out, Hb11.out.alloc Hb11.out.size _⟩
      | true =>
        rw [hpv] at H5
        have Hyes := Lib.hid (addR_yes Hrv.out hpv)
        clear hpv
        go_wp2_with fail
        refine H5.out.mono ?_
        rintro e w11 ⟨rfl, hb11⟩
        have Hb11 := Lib.hid (below_step Hb10.out Hb10.out.size hb11)
        have Hown11 := Lib.hid (own_below Hown10.out hb11)
        clear hb11
        go_wp2_with fail
        go_ret2
        exact ⟨_, by rw [Hyes.out.2]; rfl, by rw [Hyes.out.1]; exact own_of Hown11.out, Hb11.out⟩

end Go.Proofs.Ytkfbgoahppfelaa
