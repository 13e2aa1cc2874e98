
/- The walks that leave out an order and add one: AddForward. -/
import Derived.Test.YtefgfdehinpbaaaFw3
import Derived.Test.YtefgfdehinpbaaaApp
namespace Go.Proofs.Ytefgfdehinpbaaa
open Go.RowKit
set_option linter.unusedVariables false

theorem fwd_info : (Try.prog.info? 34).map (fun i => (i.zero, i.size, i.bytes)) = some (some (.agg #[.string ⟨#[]⟩, .string ⟨#[]⟩]), 2, 32) := by kernel_rfl
theorem fwd_elem : ElemInfo Try.prog 23 34 2 32 := elemInfo_of Try.underlying23 fwd_info rfl (by decide)
/-- Orders in memory of the call's own. -/
abbrev OF (w : World) (lo hi : Nat) (v : Value) (xs : List Fwd) : Prop := Own w lo hi 34 2 v xs.length (fcs xs)
theorem litF0 (w : World) : OF (w.alloc (.cells #[] 34)) w.heap.size (w.alloc (.cells #[] 34)).heap.size (.slice (some ⟨w.heap.size, 0, none⟩) 0 0) [] := own_of (World.ownsRow_lit w #[] 0 (Nat.le_refl _) (Nat.zero_le _) rfl)
theorem fcs_snoc (xs : List Fwd) (x : Fwd) : fcs (xs ++ [x]) = fcs xs ++ fcs [x] := cs2_append _ _
/-- A new block with one order in it. -/
theorem newF (W : World) (x : Fwd) : Below W.heap.size W (W.alloc (.cells #[.string x.1, .string x.2] 34)) ∧ Rd (W.alloc (.cells #[.string x.1, .string x.2] 34)) (some ⟨W.heap.size, 0, none⟩) (fcs [x]) :=
  ⟨(Below.refl _ _).alloc (Nat.le_refl _) _, rd_new W (fcs [x]) 34⟩

/-- Without the one at a place; all, where there is no such place. -/
def woI (xs : List Fwd) (a : Int) : List Fwd := if a < 0 then xs else xs.eraseIdx a.toNat
theorem woI_zero (xs : List Fwd) (a : Int) : woI (xs.take 0) a = [] := by simp [woI]
theorem woI_skip {xs : List Fwd} {k : Nat} {x : Fwd} {a : Int} (hx : xs[k]? = some x) (h : (k : Int) = a) : woI (xs.take (k + 1)) a = woI (xs.take k) a := by
  subst h
  have hk := (List.getElem?_eq_some_iff.1 hx).1
  have hl : (xs.take k).length = k := by rw [List.length_take]; omega
  rw [take_snoc hx, woI, woI, if_neg (by omega), if_neg (by omega), Int.toNat_natCast, List.eraseIdx_append_of_length_le (by omega), hl, Nat.sub_self, List.eraseIdx_of_length_le (l := xs.take k) (by omega)]
  simp
theorem woI_step {xs : List Fwd} {k : Nat} {x : Fwd} {a : Int} (hx : xs[k]? = some x) (h : (k : Int) ≠ a) : woI (xs.take (k + 1)) a = woI (xs.take k) a ++ [x] := by
  have hk := (List.getElem?_eq_some_iff.1 hx).1
  have hl : (xs.take k).length = k := by rw [List.length_take]; omega
  by_cases ha : a < 0
  · rw [woI, woI, if_pos ha, if_pos ha, take_snoc hx]
  · rw [woI, woI, if_neg ha, if_neg ha, take_snoc hx]
    by_cases h2 : a.toNat < k
    · rw [List.eraseIdx_append_of_lt_length (by omega)]
    · rw [List.eraseIdx_of_length_le (l := xs.take k) (by omega), List.eraseIdx_of_length_le (by simp; omega)]
theorem woI_full (xs : List Fwd) (a : Int) : woI (xs.take xs.length) a = woI xs a := by rw [List.take_length]
theorem woI_len (xs : List Fwd) (a : Int) : (woI xs a).length ≤ xs.length := by
  unfold woI
  split
  · exact Nat.le_refl _
  · exact (List.eraseIdx_sublist _ _).length_le
theorem woI_mem {xs : List Fwd} {a : Int} {x : Fwd} (h : x ∈ woI xs a) : x ∈ xs := by
  unfold woI at h
  split at h
  · exact h
  · exact (List.eraseIdx_sublist _ _).subset h
theorem woI_szf {xs : List Fwd} {a : Int} (h : Szf xs) : Szf (woI xs a) := fun x hx => h x (woI_mem hx)

set_option maxRecDepth 100000 in
set_option maxHeartbeats 1600000 in
theorem impl_wo (v : Value) (xs : List Fwd) (a : Int) (w : World) (h : Ft w v xs) (hl : xs.length ≤ 100) :
    Calls Try.prog 56 #[v, .int .i64 a] w fun e w' => ∃ u, e = .returned u ∧ OF w' w.heap.size w'.heap.size u (woI xs a) ∧ Below w.heap.size w w' := by
  obtain ⟨A, c, rfl, hA, hc1, hc2⟩ := h
  have HA := Lib.hid hA
  clear hA
  obtain ⟨i0, hi, hz0, hz1, hz2⟩ := info_parts fwd_info
  have Hi2 := Lib.hid hz2
  go_enter Try.func56, Try.ntmps56
  go_wp2_with (at_make; refine wpList_make_own _ rfl _ _ _ rfl w.heap.size 34 i0 _ 2 Try.underlying23 hi hz0 hz1 _ _ _ (xs.length + 1) rfl rfl (by first | rfl | (simp; omega)) (by rw [hz2]; omega) (by unfold maxLen; omega) (Nat.le_refl _) ?_; intro w1 hown1 hg1)
  have Hb1 : Hid (Below w.heap.size w w1) := Lib.hid ((Below.refl _ _).grown hg1 (Nat.le_refl _) (by simp))
  have Ho1 : Hid (w1.ownsRow w.heap.size 34 2 (.slice (some ⟨w.heap.size, 0, none⟩) 0 (xs.length + 1)) (woI (xs.take 0) a).length (fcs (woI (xs.take 0) a))) := Lib.hid (by rw [woI_zero]; exact hown1)
  clear hown1 hg1 hi hz0 hz1 hz2 Hi2
  go_wp2_with fail
  go_loopw [5, 14] (fun o i wr => ∃ (k : Nat) (u0 : Value), k ≤ xs.length ∧ i = .int .i64 k ∧ u0 = o ∧ Hid (Below w.heap.size w wr) ∧ Hid (wr.ownsRow w.heap.size 34 2 u0 (woI (xs.take k) a).length (fcs (woI (xs.take k) a)))) (fun _ i _ => xs.length - (intOf i).toNat)
  case atStart => exact ⟨0, _, Nat.zero_le _, rfl, rfl, Hb1, Ho1⟩
  case round =>
    obtain ⟨k, u0, hk, rfl, rfl, Hb, Ho⟩ := hrel
    clear Hb1 Ho1
    by_cases hlt : k < xs.length
    · obtain ⟨ad, x, rfl, hx, hcA, hcB⟩ := (HA.out.below Hb.out).two hlt
      simp only [ftf] at hcA hcB
      have Hb2 := Lib.hid (below_step Hb.out Hb.out.size (newF wr x).1)
      have Ho2 := Lib.hid (own_below Ho.out (newF wr x).1)
      by_cases hw : (k : Int) = a
      · have e1 : ((k : Int) != a) = false := by simp [hw]
        have Hst := Lib.hid (woI_skip hx hw)
        clear hx hw
        go_wp2_with fail
        go_roundw
        case rel => exact ⟨k + 1, _, by omega, by go_num, rfl, Hb2, Lib.hid (by rw [Hst.out]; exact Ho2.out)⟩
        case measure => simp [intOf]; omega
      · have e1 : ((k : Int) != a) = true := by simp [hw]
        have Hst := Lib.hid (woI_step hx hw)
        obtain ⟨C, cp, rfl, _, _, _, _⟩ := own_form Ho2.out
        have hll := woI_len (xs.take k) a
        rw [List.length_take] at hll
        obtain ⟨wa, hwa⟩ : ∃ wa, wa = wr.alloc (.cells #[.string x.1, .string x.2] 34) := ⟨_, rfl⟩
        rw [← hwa] at Hb2 Ho2
        have hv1 : wa.cell? ⟨wr.heap.size, 0, none⟩ = some (.string x.1) := by rw [hwa, World.cell?_alloc_at _ _ _ _ rfl]; rfl
        have hv2 : wa.cell? ⟨wr.heap.size, 1, none⟩ = some (.string x.2) := by rw [hwa, World.cell?_alloc_at _ _ _ _ rfl]; rfl
        have hnn := newF wa x
        have hsz : wa.heap.size = wr.heap.size + 1 := by rw [hwa, World.size_alloc]
        have HNb := Lib.hid hnn.1
        have HNr := hnn.2
        rw [hsz] at HNr
        have HNr := Lib.hid HNr
        clear hnn hsz
        have Hb3 := Lib.hid (below_step Hb2.out Hb2.out.size HNb.out)
        have Ho3 := Lib.hid (own_below Ho2.out HNb.out)
        clear hx hw Ho Hb
        go_wp2_with (at_builtin; simp only [← hwa]; refine wpList_append_rd rfl (.tmp 22) (.tmp 24) 23 rfl fwd_elem (base := w.heap.size) (.slice C (woI (xs.take k) a).length cp) (woI (xs.take k) a).length (fcs (woI (xs.take k) a)) rfl Ho3.out (some ⟨wr.heap.size + 1, 0, none⟩) 1 1 (fcs [x]) rfl rfl HNr.out (fcs_oneCell _) (by unfold maxLen; omega) (by omega) Hb3.out.size ?_; intro v6 w6 hown6 hg6 hm6)
        have Hb6 := Lib.hid (Hb3.out.grown hg6 Hb3.out.size (fun g e => (Ho3.out.lt g e).1))
        have Ho6 : Hid (w6.ownsRow w.heap.size 34 2 v6 (woI (xs.take (k + 1)) a).length (fcs (woI (xs.take (k + 1)) a))) := Lib.hid (by rw [Hst.out, List.length_append, fcs_snoc]; exact hown6)
        clear hown6 hg6 hm6
        go_roundw
        case rel => exact ⟨k + 1, _, by omega, by go_num, rfl, Hb6, Ho6⟩
        case measure => simp [intOf]; omega
    · have hk' : k = xs.length := by omega
      subst hk'
      have Ho2 := Lib.hid Ho.out
      rw [woI_full] at Ho2
      go_wp2_with fail
      go_ret
      exact ⟨_, rfl, own_of Ho2.out, Hb.out⟩

set_option maxRecDepth 100000 in
set_option maxHeartbeats 1600000 in
theorem spec_wo (v : Value) (xs : List Fwd) (a : Int) (w : World) (h : Ft w v xs) (hl : xs.length ≤ 100) :
    Calls Try.prog 57 #[v, .int .i64 a] w fun e w' => ∃ u, e = .returned u ∧ OF w' w.heap.size w'.heap.size u (woI xs a) ∧ Below w.heap.size w w' := by
  obtain ⟨A, c, rfl, hA, hc1, hc2⟩ := h
  unfold maxLen at hc2
  have HA := Lib.hid hA
  clear hA
  have Hb1 : Hid (Below w.heap.size w (w.alloc (.cells #[] 34))) := Lib.hid ((Below.refl _ _).alloc (Nat.le_refl _) _)
  have Ho1 : Hid ((w.alloc (.cells #[] 34)).ownsRow w.heap.size 34 2 (.slice (some ⟨w.heap.size, 0, none⟩) 0 0) (woI (xs.take 0) a).length (fcs (woI (xs.take 0) a))) := Lib.hid (by rw [woI_zero]; exact (litF0 w).row)
  go_enter Try.func57, Try.ntmps57
  go_wp2_with fail
  go_loopw [5, 6] (fun o i wr => ∃ (k : Nat) (u0 : Value), k ≤ xs.length ∧ i = .int .i64 k ∧ u0 = o ∧ Hid (Below w.heap.size w wr) ∧ Hid (wr.ownsRow w.heap.size 34 2 u0 (woI (xs.take k) a).length (fcs (woI (xs.take k) a)))) (fun _ i _ => xs.length - (intOf i).toNat)
  case atStart => exact ⟨0, _, Nat.zero_le _, rfl, rfl, Hb1, Ho1⟩
  case round =>
    obtain ⟨k, u0, hk, rfl, rfl, Hb, Ho⟩ := hrel
    clear Hb1 Ho1
    by_cases hlt : k < xs.length
    · obtain ⟨ad, x, rfl, hx, hcA, hcB⟩ := (HA.out.below Hb.out).two hlt
      simp only [ftf] at hcA hcB
      by_cases hw : (k : Int) = a
      · have e1 : ((k : Int) != a) = false := by simp [hw]
        have Hst := Lib.hid (woI_skip hx hw)
        clear hx hw
        go_wp2_with fail
        go_roundw
        case rel => exact ⟨k + 1, _, by omega, by go_num, rfl, Hb, Lib.hid (by rw [Hst.out]; exact Ho.out)⟩
        case measure => simp [intOf]; omega
      · have e1 : ((k : Int) != a) = true := by simp [hw]
        have Hst := Lib.hid (woI_step hx hw)
        obtain ⟨C, cp, rfl, _, _, _, _⟩ := own_form Ho.out
        have hll := woI_len (xs.take k) a
        rw [List.length_take] at hll
        clear hx hw
        go_wp2_with (at_builtin; refine wpList_append_rd rfl (.tmp 17) (.tmp 22) 23 rfl fwd_elem (base := w.heap.size) (.slice C (woI (xs.take k) a).length cp) (woI (xs.take k) a).length (fcs (woI (xs.take k) a)) rfl (own_below (Ho).out (newF wr x).1) (some ⟨(wr).heap.size, 0, none⟩) 1 1 (fcs [x]) rfl rfl (newF wr x).2 (fcs_oneCell _) (by unfold maxLen; omega) (by omega) (Nat.le_trans (Hb).out.size (newF wr x).1.size) ?_; intro v6 w6 hown6 hg6 hm6)
        have Hb6 := Lib.hid ((below_step Hb.out Hb.out.size (newF wr x).1).grown hg6 (Nat.le_trans Hb.out.size (newF wr x).1.size) (fun g e => (Ho.out.lt g e).1))
        have Ho6 : Hid (w6.ownsRow w.heap.size 34 2 v6 (woI (xs.take (k + 1)) a).length (fcs (woI (xs.take (k + 1)) a))) := Lib.hid (by rw [Hst.out, List.length_append, fcs_snoc]; exact hown6)
        clear hown6 hg6 hm6
        go_roundw
        case rel => exact ⟨k + 1, _, by omega, by go_num, rfl, Hb6, Ho6⟩
        case measure => simp [intOf]; omega
    · have hk' : k = xs.length := by omega
      subst hk'
      have Ho2 := Lib.hid Ho.out
      rw [woI_full] at Ho2
      go_wp2_with fail
      go_ret
      exact ⟨_, rfl, own_of Ho2.out, Hb.out⟩

/-- The orders with one more, if they are valid and letters arrive. -/
def putF (xs : List Fwd) (f t : ByteArray) : List Fwd := woI xs (idxI xs f) ++ [(f, t)]
def addO (xs : List Fwd) (f t : ByteArray) : Option (List Fwd) := if fv xs && fv (putF xs f t) && (resolve (putF xs f t) f).isSome then some (putF xs f t) else none
def addFL (xs : List Fwd) (f t : ByteArray) : List Fwd := match addO xs f t with | some l => l | none => []
def addFB (xs : List Fwd) (f t : ByteArray) : Bool := (addO xs f t).isSome
theorem addF_no {xs : List Fwd} {f t : ByteArray} (h : (fv xs && fv (putF xs f t) && (resolve (putF xs f t) f).isSome) = false) : addFL xs f t = [] ∧ addFB xs f t = false := by simp [addFL, addFB, addO, h]
theorem addF_no1 {xs : List Fwd} {f t : ByteArray} (h : fv xs = false) : addFL xs f t = [] ∧ addFB xs f t = false := addF_no (by simp [h])
theorem addF_no2 {xs : List Fwd} {f t : ByteArray} (h : fv (putF xs f t) = false) : addFL xs f t = [] ∧ addFB xs f t = false := addF_no (by simp [h])
theorem addF_no3 {xs : List Fwd} {f t : ByteArray} (h : resolve (putF xs f t) f = none) : addFL xs f t = [] ∧ addFB xs f t = false := addF_no (by simp [h])
theorem addF_yes {xs : List Fwd} {f t : ByteArray} {p : ByteArray × Nat} (h1 : fv xs = true) (h2 : fv (putF xs f t) = true) (h3 : resolve (putF xs f t) f = some p) : addFL xs f t = putF xs f t ∧ addFB xs f t = true := by simp [addFL, addFB, addO, h1, h2, h3]
theorem putF_len (xs : List Fwd) (f t : ByteArray) : (putF xs f t).length ≤ xs.length + 1 := by
  have := woI_len xs (idxI xs f)
  simp [putF]; omega
theorem putF_szf {xs : List Fwd} {f t : ByteArray} (h : Szf xs) (hf : f.size ≤ maxLen) (ht : t.size ≤ maxLen) : Szf (putF xs f t) := fun x hx => by
  rcases List.mem_append.1 hx with h1 | h1
  · exact woI_szf h x h1
  · simp at h1; subst h1; exact ⟨hf, ht⟩
theorem nilF {w w10 : World} {L : List Fwd} (h : L = []) : OF w10 w.heap.size w10.heap.size (.slice none 0 0) L := by
  subst h; exact own_nil _ _ _ _ _
theorem litF {w w10 : World} {L : List Fwd} (h : L = []) (hb : Below w.heap.size w w10) : OF (w10.alloc (.cells #[] 34)) w.heap.size (w10.alloc (.cells #[] 34)).heap.size (.slice (some ⟨w10.heap.size, 0, none⟩) 0 0) L := by
  subst h; exact (litF0 w10).wide hb.size (Nat.le_refl _)
theorem ret_tup {u : Value} {a b : Bool} (h : a = b) : Ending.returned (.tuple #[u, .bool b]) = .returned (.tuple #[u, .bool a]) := by rw [h]

set_option maxRecDepth 100000 in
set_option maxHeartbeats 1600000 in
theorem impl_add (v : Value) (xs : List Fwd) (f t : ByteArray) (w : World) (h : Ft w v xs) (hs : Szf xs) (hl : xs.length ≤ 60) (hf : f.size ≤ maxLen) (ht : t.size ≤ maxLen) :
    Calls Try.prog 27 #[v, .string f, .string t] w fun e w' => ∃ u, e = .returned (.tuple #[u, .bool (addFB xs f t)]) ∧ OF w' w.heap.size w'.heap.size u (addFL xs f t) ∧ Below w.heap.size w w' := by
  obtain ⟨x, rfl, rfl⟩ : ∃ x : Fwd, f = x.1 ∧ t = x.2 := ⟨(f, t), rfl, rfl⟩
  have Hput : Hid (putF xs x.1 x.2 = woI xs (idxI xs x.1) ++ [x]) := Lib.hid rfl
  have H := Lib.hid h
  have H1 := Lib.hid (impl_fv v xs w h hs)
  have Hsp := Lib.hid (putF_szf hs hf ht)
  clear h hs
  go_enter Try.func27, Try.ntmps27
  go_wp2_with fail
  refine H1.out.mono ?_
  rintro e w1 ⟨rfl, hb1⟩
  have Hb1 := Lib.hid hb1
  clear H1 hb1
  cases hrv : fv xs with
  | false =>
    have Hno := Lib.hid (addF_no1 (f := x.1) (t := x.2) hrv)
    clear hrv
    go_wp2_with fail
    go_ret2
    exact ⟨_, ret_tup Hno.out.2, nilF Hno.out.1, Hb1.out⟩
  | true =>
    have Hrv := Lib.hid hrv
    have H2 := Lib.hid (impl_idx v xs x.1 w1 (H.out.below Hb1.out))
    clear hrv
    go_wp2_with fail
    refine H2.out.mono ?_
    rintro e w2 ⟨rfl, hb2⟩
    have Hb2 := Lib.hid (below_trans' Hb1.out hb2)
    have H3 := Lib.hid (impl_wo v xs (idxI xs x.1) w2 (H.out.below Hb2.out) (by omega))
    clear H2 hb2
    go_wp2_with fail
    refine H3.out.mono ?_
    rintro e w3 ⟨u, rfl, ho3, hb3⟩
    have Hb3 := Lib.hid (below_trans' Hb2.out hb3)
    obtain ⟨C, cp, rfl, _, _, _, _⟩ := own_form ho3.row
    have Ho3 := Lib.hid (own_base ho3.row Hb2.out.size)
    have hll := woI_len xs (idxI xs x.1)
    clear H3 ho3 hb3
    go_wp2_with (at_builtin; refine wpList_append_rd rfl (.tmp 19) (.tmp 23) 23 rfl fwd_elem (base := w.heap.size) (.slice C (woI xs (idxI xs x.1)).length cp) (woI xs (idxI xs x.1)).length (fcs (woI xs (idxI xs x.1))) rfl (own_below (Ho3).out (newF w3 x).1) (some ⟨(w3).heap.size, 0, none⟩) 1 1 (fcs [x]) rfl rfl (newF w3 x).2 (fcs_oneCell _) (by unfold maxLen; omega) (by omega) (Nat.le_trans (Hb3).out.size (newF w3 x).1.size) ?_; intro v6 w6 hown6 hg6 hm6)
    have Hb6 := Lib.hid ((below_step Hb3.out Hb3.out.size (newF w3 x).1).grown hg6 (Nat.le_trans Hb3.out.size (newF w3 x).1.size) (fun g e => (Ho3.out.lt g e).1))
    have Ho6 : Hid (w6.ownsRow w.heap.size 34 2 v6 (putF xs x.1 x.2).length (fcs (putF xs x.1 x.2))) := Lib.hid (by rw [Hput.out, List.length_append, fcs_snoc]; exact hown6)
    have hpl := putF_len xs x.1 x.2
    clear hown6 hg6 hm6 hll Hput Ho3 Hb3
    have H5 := Lib.hid (impl_fv v6 (putF xs x.1 x.2) _ (sl_own Ho6.out) Hsp.out)
    cases hpv : fv (putF xs x.1 x.2) with
    | false =>
      have Hno := Lib.hid (addF_no2 (xs := xs) (f := x.1) (t := x.2) hpv)
      rw [hpv] at H5
      clear hpv
      go_wp2_with fail
      refine H5.out.mono ?_
      rintro e w7 ⟨rfl, hb7⟩
      have Hb7 := Lib.hid (below_trans' Hb6.out hb7)
      clear hb7
      go_wp2_with fail
      go_ret2
      exact ⟨_, ret_tup Hno.out.2, nilF Hno.out.1, Hb7.out⟩
    | true =>
      have Hpv := Lib.hid hpv
      rw [hpv] at H5
      clear hpv
      go_wp2_with fail
      refine H5.out.mono ?_
      rintro e w7 ⟨rfl, hb7⟩
      have Hb7 := Lib.hid (below_trans' Hb6.out hb7)
      have Ho7 := Lib.hid (own_below Ho6.out hb7)
      have H6 := Lib.hid (impl_res v6 (putF xs x.1 x.2) x.1 w7 (sl_own Ho7.out) (by omega))
      clear hb7 Ho6 Hb6 H5
      cases hr : resolve (putF xs x.1 x.2) x.1 with
      | none =>
        have Hno := Lib.hid (addF_no3 (xs := xs) (f := x.1) (t := x.2) hr)
        rw [hr, reE_none] at H6
        clear hr
        go_wp2_with fail
        refine H6.out.mono ?_
        rintro e w8 ⟨rfl, hb8⟩
        have Hb8 := Lib.hid (below_trans' Hb7.out hb8)
        clear hb8
        go_wp2_with fail
        go_ret2
        exact ⟨_, ret_tup Hno.out.2, nilF Hno.out.1, Hb8.out⟩
      | some p =>
        obtain ⟨q, n⟩ := p
        have Hyes := Lib.hid (addF_yes Hrv.out Hpv.out hr)
        rw [hr, reE_some] at H6
        clear hr
        go_wp2_with fail
        refine H6.out.mono ?_
        rintro e w8 ⟨rfl, hb8⟩
        have Hb8 := Lib.hid (below_trans' Hb7.out hb8)
        have Ho8 := Lib.hid (own_below Ho7.out hb8)
        clear hb8
        go_wp2_with fail
        go_ret2
        exact ⟨_, ret_tup Hyes.out.2, by rw [Hyes.out.1]; exact own_of Ho8.out, Hb8.out⟩

set_option maxRecDepth 100000 in
set_option maxHeartbeats 1600000 in
theorem spec_add (v : Value) (xs : List Fwd) (f t : ByteArray) (w : World) (h : Ft w v xs) (hs : Szf xs) (hl : xs.length ≤ 60) (hf : f.size ≤ maxLen) (ht : t.size ≤ maxLen) :
    Calls Try.prog 28 #[v, .string f, .string t] w fun e w' => ∃ u, e = .returned (.tuple #[u, .bool (addFB xs f t)]) ∧ OF w' w.heap.size w'.heap.size u (addFL xs f t) ∧ Below w.heap.size w w' := by
  obtain ⟨x, rfl, rfl⟩ : ∃ x : Fwd, f = x.1 ∧ t = x.2 := ⟨(f, t), rfl, rfl⟩
  have Hput : Hid (putF xs x.1 x.2 = woI xs (idxI xs x.1) ++ [x]) := Lib.hid rfl
  have H := Lib.hid h
  have Hs := Lib.hid hs
  have Hsp := Lib.hid (putF_szf hs hf ht)
  have H2 := Lib.hid (spec_idx v xs x.1 w h)
  clear h hs
  go_enter Try.func28, Try.ntmps28
  go_wp2_with fail
  refine H2.out.mono ?_
  rintro e w2 ⟨rfl, hb2⟩
  have Hb2 := Lib.hid hb2
  have H3 := Lib.hid (spec_wo v xs (idxI xs x.1) w2 (H.out.below Hb2.out) (by omega))
  clear H2 hb2
  go_wp2_with fail
  refine H3.out.mono ?_
  rintro e w3 ⟨u, rfl, ho3, hb3⟩
  have Hb3 := Lib.hid (below_trans' Hb2.out hb3)
  obtain ⟨C, cp, rfl, _, _, _, _⟩ := own_form ho3.row
  have Ho3 := Lib.hid (own_base ho3.row Hb2.out.size)
  have hll := woI_len xs (idxI xs x.1)
  clear H3 ho3 hb3
  go_wp2_with (at_builtin; refine wpList_append_rd rfl (.tmp 16) (.tmp 20) 23 rfl fwd_elem (base := w.heap.size) (.slice C (woI xs (idxI xs x.1)).length cp) (woI xs (idxI xs x.1)).length (fcs (woI xs (idxI xs x.1))) rfl (own_below (Ho3).out (newF w3 x).1) (some ⟨(w3).heap.size, 0, none⟩) 1 1 (fcs [x]) rfl rfl (newF w3 x).2 (fcs_oneCell _) (by unfold maxLen; omega) (by omega) (Nat.le_trans (Hb3).out.size (newF w3 x).1.size) ?_; intro v6 w6 hown6 hg6 hm6)
  have Hb6 := Lib.hid ((below_step Hb3.out Hb3.out.size (newF w3 x).1).grown hg6 (Nat.le_trans Hb3.out.size (newF w3 x).1.size) (fun g e => (Ho3.out.lt g e).1))
  have Ho6 : Hid (w6.ownsRow w.heap.size 34 2 v6 (putF xs x.1 x.2).length (fcs (putF xs x.1 x.2))) := Lib.hid (by rw [Hput.out, List.length_append, fcs_snoc]; exact hown6)
  have hpl := putF_len xs x.1 x.2
  have H4 := Lib.hid (spec_fv v xs w6 (H.out.below Hb6.out) Hs.out)
  clear hown6 hg6 hm6 hll Hput Ho3 Hb3
  go_wp2_with fail
  refine H4.out.mono ?_
  rintro e w5 ⟨rfl, hb5⟩
  have Ho5 := Lib.hid (own_below Ho6.out hb5)
  have Hb5 := Lib.hid (below_trans' Hb6.out hb5)
  clear H4 hb5 Ho6 Hb6
  cases hrv : fv xs with
  | false =>
    have Hno := Lib.hid (addF_no1 (f := x.1) (t := x.2) hrv)
    clear hrv
    go_wp2_with fail
    go_ret2
    exact ⟨_, ret_tup Hno.out.2, litF Hno.out.1 Hb5.out, Hb5.out.alloc Hb5.out.size _⟩
  | true =>
    have Hrv := Lib.hid hrv
    have Ho6 := Ho5
    have Hb6 := Hb5
    clear hrv
    have H5 := Lib.hid (spec_fv v6 (putF xs x.1 x.2) _ (sl_own Ho6.out) Hsp.out)
    cases hpv : fv (putF xs x.1 x.2) with
    | false =>
      have Hno := Lib.hid (addF_no2 (xs := xs) (f := x.1) (t := x.2) hpv)
      rw [hpv] at H5
      clear hpv
      go_wp2_with fail
      refine H5.out.mono ?_
      rintro e w7 ⟨rfl, hb7⟩
      have Hb7 := Lib.hid (below_trans' Hb6.out hb7)
      clear hb7
      go_wp2_with fail
      go_ret2
      exact ⟨_, ret_tup Hno.out.2, litF Hno.out.1 Hb7.out, Hb7.out.alloc Hb7.out.size _⟩
    | true =>
      have Hpv := Lib.hid hpv
      rw [hpv] at H5
      clear hpv
      go_wp2_with fail
      refine H5.out.mono ?_
      rintro e w7 ⟨rfl, hb7⟩
      have Hb7 := Lib.hid (below_trans' Hb6.out hb7)
      have Ho7 := Lib.hid (own_below Ho6.out hb7)
      have H6 := Lib.hid (spec_res v6 (putF xs x.1 x.2) x.1 w7 (sl_own Ho7.out) (by omega))
      clear hb7 Ho6 Hb6 H5
      cases hr : resolve (putF xs x.1 x.2) x.1 with
      | none =>
        have Hno := Lib.hid (addF_no3 (xs := xs) (f := x.1) (t := x.2) hr)
        rw [hr, reE_none] at H6
        clear hr
        go_wp2_with fail
        refine H6.out.mono ?_
        rintro e w8 ⟨rfl, hb8⟩
        have Hb8 := Lib.hid (below_trans' Hb7.out hb8)
        clear hb8
        go_wp2_with fail
        go_ret2
        exact ⟨_, ret_tup Hno.out.2, litF Hno.out.1 Hb8.out, Hb8.out.alloc Hb8.out.size _⟩
      | some p =>
        obtain ⟨q, n⟩ := p
        have Hyes := Lib.hid (addF_yes Hrv.out Hpv.out hr)
        rw [hr, reE_some] at H6
        clear hr
        go_wp2_with fail
        refine H6.out.mono ?_
        rintro e w8 ⟨rfl, hb8⟩
        have Hb8 := Lib.hid (below_trans' Hb7.out hb8)
        have Ho8 := Lib.hid (own_below Ho7.out hb8)
        clear hb8
        go_wp2_with fail
        go_ret2
        exact ⟨_, ret_tup Hyes.out.2, by rw [Hyes.out.1]; exact own_of Ho8.out, Hb8.out⟩
end Go.Proofs.Ytefgfdehinpbaaa
