
/- The walks of RemoveRule; slices.Grow by the library's contract, laid at this program's numbers (written by the kit's tool lay-plain; its numbers are marks). -/
import Derived.Test.YtkfbgoahppfelaaNt7
import Derived.Shelf.Spec.SlicesGrow
import Derived.Deep.WholeRow
namespace Go.Proofs.Ytkfbgoahppfelaa
open Go.RowKit Go.Shelf
set_option linter.unusedVariables false

def grow_ren : Go.Shelf.Ren := ⟨fun | 4 => 85 | n => n, fun | 22 => 23 | 25 => 31 | 3 => 3 | 4 => 4 | 9 => 9 | 20 => 20 | 0 => 0 | n => n, fun | n => n⟩
theorem grow_lays : Go.Proofs.Lays8.n4 Try.prog grow_ren := {
  mixed := by kernel_rfl
  f4 := ⟨Try.f85.name, by decide, Try.func85.trans (congrArg some (by kernel_rfl))⟩
  t0 := Try.underlying0
  a0 := Try.isAgg0
  z0 := Try.sizeOf0
  v0 := Try.zeroValue0
  t3 := Try.underlying3
  a3 := Try.isAgg3
  z3 := Try.sizeOf3
  v3 := Try.zeroValue3
  t4 := Try.underlying4
  a4 := Try.isAgg4
  z4 := Try.sizeOf4
  v4 := Try.zeroValue4
  t9 := Try.underlying9
  a9 := Try.isAgg9
  z9 := Try.sizeOf9
  v9 := Try.zeroValue9
  t20 := Try.underlying20
  a20 := Try.isAgg20
  z20 := Try.sizeOf20
  v20 := Try.zeroValue20
  t22 := Try.underlying23
  a22 := Try.isAgg23
  z22 := Try.sizeOf23
  v22 := Try.zeroValue23 }


theorem grow_any (n : Nat) (w : World) (hn : n ≤ 1048576) :
    Calls Try.prog 85 #[.slice none 0 0, .int .i64 n] w fun e w' => ∃ v, e = .returned v ∧ w'.ownsRow w.heap.size 31 2 v 0 (rcs []) ∧ Below w.heap.size w w' := by
  by_cases h0 : n = 0
  · subst h0
    refine (Any8.slices_Grow_room grow_lays none 0 0 0 w (by omega) (by omega) (by omega) (by omega)).mono ?_
    rintro e w' ⟨rfl, rfl⟩
    exact ⟨_, rfl, World.ownsRow_nil _ _ _ _, Below.refl _ _⟩
  · obtain ⟨i0, hi, hz0, hz1, hz2⟩ := info_parts rul_info
    refine (Any8.slices_Grow_grow grow_lays i0 _ hi hz0 (by rw [hz1]; omega) none 0 0 n [] w (by omega) (by omega) (by rw [hz2]; omega) (by omega) (by simp) (by simp) (by simp)).mono ?_
    rintro e w' ⟨rfl, rfl⟩
    have hge := grownCap_ge w (0 + n) 0 (grow_ren.t 25)
    have hle := grownCap_le_maxLen w (0 + n) 0 (grow_ren.t 25) (by unfold maxLen; omega)
    have hb : Below w.heap.size w w.drew := (Below.refl _ _).drew
    refine ⟨_, rfl, ⟨rfl, .inr ⟨w.heap.size, _, _, rfl, Nat.le_refl _, heap_alloc_last _ _, Nat.zero_le _, hle, ?_, ?_⟩⟩, hb.alloc (Nat.le_refl _) _⟩
    · simp only [Array.size_append, List.size_toArray, size_zeroCells, List.length_nil]
      have : (Value.agg #[.string ⟨#[]⟩, .string ⟨#[]⟩]).cells.size = 2 := rfl
      rw [this]; omega
    · rfl

set_option maxRecDepth 100000 in
set_option maxHeartbeats 1600000 in
theorem concat_any (A : Option Addr) (c : Nat) (us : List Value) (xss : List (List Rul)) (w : World) (hA : Rd w A us) (hus : SlRows Rt w us xss) (hl : us.length ≤ 10) (hx : xss.flatten.length ≤ 100000) :
    Calls Try.prog 64 #[.slice A us.length c] w fun e w' => ∃ u, e = .returned u ∧ w'.ownsRow w.heap.size 31 2 u xss.flatten.length (rcs xss.flatten) ∧ Below w.heap.size w w' := by
  have HA := Lib.hid hA
  have Hus := Lib.hid hus
  have Hul := Lib.hid hus.len
  have Hx := Lib.hid hx
  have fle : ∀ m, (xss.take m).flatten.length ≤ 100000 := fun m => by
    have : xss.flatten = (xss.take m).flatten ++ (xss.drop m).flatten := by rw [← List.flatten_append, List.take_append_drop]
    rw [this, List.length_append] at hx; omega
  have Hfle := Lib.hid fle
  clear hA hus hx fle
  go_enter Try.func64, Try.ntmps64
  go_wp2_with fail
  go_loopw [3, 11] (fun s i wr => ∃ k m : Nat, k ≤ us.length ∧ i = .int .i64 k ∧ s = .int .i64 m ∧ m ≤ 100000 ∧ Hid (m = (xss.take k).flatten.length) ∧ w = wr) (fun _ i _ => us.length - (intOf i).toNat)
  case atStart => exact ⟨0, 0, Nat.zero_le _, rfl, rfl, by omega, Lib.hid rfl, rfl⟩
  case round =>
    obtain ⟨k, m, hk, rfl, rfl, hm, Hm, rfl⟩ := hrel
    by_cases hlt : k < us.length
    · obtain ⟨p, x, hp, hxk, hpx⟩ := Hus.out.at_ (k := k) (by have := Hul.out; omega)
      obtain ⟨ad, rfl, hcA⟩ := HA.out k _ hp
      obtain ⟨PA, pc, rfl, _, hpc1, hpc2⟩ := hpx
      have hst : (xss.take (k + 1)).flatten.length = (xss.take k).flatten.length + x.length := by rw [take_snoc hxk, List.flatten_append, List.length_append]; simp
      have hm2 := Hfle.out (k + 1)
      rw [hst, ← Hm.out] at hm2
      have Hm2 : Hid (m + x.length = (xss.take (k + 1)).flatten.length) := Lib.hid (by rw [hst, ← Hm.out])
      have hnn : ¬ ((m : Int) + (x.length : Int) < 0) := by omega
      have hdd : decide ((m : Int) + (x.length : Int) < 0) = false := decide_eq_false hnn
      clear hp hxk hst
      go_wp2_with fail
      go_roundw
      case rel => exact ⟨k + 1, m + x.length, by omega, by go_num, by go_num, hm2, Hm2, by first | rfl | trivial⟩
      case measure => simp [intOf]; omega
    · have hk' : k = us.length := by omega
      subst hk'
      have HG := Lib.hid (grow_any m w (by omega))
      go_wp2_with fail
      refine HG.out.mono ?_
      rintro e w2 ⟨v, rfl, ho2, hb2⟩
      have Ho2 : Hid (w2.ownsRow w.heap.size 31 2 v (xss.take 0).flatten.length (rcs (xss.take 0).flatten)) := Lib.hid ho2
      have Hb2 := Lib.hid hb2
      clear ho2 hb2 HG
      go_wp2_with fail
      go_loopw [6, 27] (fun o i wr => ∃ (j : Nat) (u0 : Value), j ≤ us.length ∧ i = .int .i64 j ∧ u0 = o ∧ Hid (Below w.heap.size w wr) ∧ Hid (wr.ownsRow w.heap.size 31 2 u0 (xss.take j).flatten.length (rcs (xss.take j).flatten))) (fun _ i _ => us.length - (intOf i).toNat)
      case atStart => exact ⟨0, _, Nat.zero_le _, rfl, rfl, Hb2, Ho2⟩
      case round =>
        obtain ⟨j, u0, hj, rfl, rfl, Hb, Hown⟩ := hrel
        clear Hb2 Ho2
        by_cases hlt2 : j < us.length
        · obtain ⟨p, x, hp, hxk, hpx⟩ := Hus.out.at_ (k := j) (by have := Hul.out; omega)
          obtain ⟨ad, rfl, hcA⟩ := (HA.out.below Hb.out) j _ hp
          obtain ⟨PA, pc, rfl, hpr, hpc1, hpc2⟩ := Sl.below hpx Hb.out
          have hst : (xss.take (j + 1)).flatten = (xss.take j).flatten ++ x := by rw [take_snoc hxk, List.flatten_append]; simp
          have hm2 := Hfle.out (j + 1)
          rw [hst, List.length_append] at hm2
          have Hst := Lib.hid hst
          clear hp hxk hst
          go_wp2_with (at_builtin; refine wpList_append_rd rfl (.tmp 31) (.tmp 32) 23 rfl rul_elem (base := w.heap.size) u0 (xss.take j).flatten.length (rcs (xss.take j).flatten) rfl Hown.out PA x.length pc (rcs x) rfl (cs2_length x) hpr (rcs_oneCell x) (by unfold maxLen; omega) (by omega) Hb.out.size ?_; intro v5 w5 hown5 hg5 hmv5)
          have Hb5 := Lib.hid (Hb.out.grown hg5 Hb.out.size (fun g e => (Hown.out.lt g e).1))
          have Ho5 : Hid (w5.ownsRow w.heap.size 31 2 v5 (xss.take (j + 1)).flatten.length (rcs (xss.take (j + 1)).flatten)) := Lib.hid (by rw [Hst.out, List.length_append, show rcs ((xss.take j).flatten ++ x) = rcs (xss.take j).flatten ++ rcs x from cs2_append _ _]; exact hown5)
          clear hown5 hg5 hmv5 hpr
          go_roundw
          case rel => exact ⟨j + 1, _, by omega, by go_num, rfl, Hb5, Ho5⟩
          case measure => simp [intOf]; omega
        · have hj' : j = us.length := by omega
          subst hj'
          have ht : xss.take us.length = xss := List.take_of_length_le (by have := Hul.out; omega)
          have Hown2 := Hown
          rw [ht] at Hown2
          clear ht
          go_wp2_with fail
          go_ret
          exact ⟨_, rfl, Hown2.out, Hb.out⟩

def remL (rs : List Rul) (p : ByteArray) : List Rul := match remR rs p with | some l => l | none => []
def remB (rs : List Rul) (p : ByteArray) : Bool := (remR rs p).isSome
theorem remR_no1 {rs : List Rul} {p : ByteArray} (h : rv rs = false) : remL rs p = [] ∧ remB rs p = false := by simp [remL, remB, remR, h]
theorem remR_no2 {rs : List Rul} {p : ByteArray} (h : idxR rs p = none) : remL rs p = [] ∧ remB rs p = false := by
  have : remR rs p = none := by unfold remR; split <;> simp [h]
  simp [remL, remB, this]
theorem remR_yes {rs : List Rul} {p : ByteArray} {k : Nat} (h1 : rv rs = true) (h : idxR rs p = some k) : remL rs p = dropAt rs k ∧ remB rs p = true := by simp [remL, remB, remR, h1, h]
theorem remL_small (rs : List Rul) (p : ByteArray) : SmR (remL rs p) := by
  cases h1 : rv rs with
  | false => rw [(remR_no1 h1).1]; exact small_nil
  | true =>
    cases h : idxR rs p with
    | none => rw [(remR_no2 h).1]; exact small_nil
    | some k =>
      rw [(remR_yes h1 h).1]
      obtain ⟨r, hr, _, _⟩ := idxR_some h
      exact rv_small (rem_add h1 hr).1

set_option maxRecDepth 100000 in
set_option maxHeartbeats 1600000 in
theorem spec_rem (v : Value) (xs : List Rul) (p : ByteArray) (w : World) (h : Rt w v xs) (hs : Szr xs) (hl : xs.length ≤ 1048576) :
    Calls Try.prog 30 #[v, .string p] w fun e w' => ∃ u, e = .returned (.tuple #[u, .bool (remB xs p)]) ∧ OR w' w.heap.size w'.heap.size u (remL xs p) ∧ Below w.heap.size w w' := by
  have H := Lib.hid h
  have Hs := Lib.hid hs
  have H1 := Lib.hid (spec_idx v xs p w h)
  clear h hs
  go_enter Try.func30, Try.ntmps30
  go_wp2_with fail
  refine H1.out.mono ?_
  rintro e w1 ⟨rfl, hb1⟩
  have Hb1 := Lib.hid hb1
  have H2 := spec_rv v xs w1 (H.out.below hb1) Hs.out
  clear H1 hb1
  cases hrv : rv xs with
  | false =>
    rw [hrv] at H2
    have H2 := Lib.hid H2
    have Hno := Lib.hid (remR_no1 (p := p) hrv)
    clear hrv
    go_wp2_with fail
    refine H2.out.mono ?_
    rintro e w2 ⟨rfl, hb2⟩
    have Hb2 := Lib.hid (below_trans' Hb1.out hb2)
    go_wp2_with fail
    go_ret2
    exact ⟨_, ret_tup Hno.out.2, nil_spec Hno.out.1 Hb2.out, Hb2.out.alloc Hb2.out.size _⟩
  | true =>
    rw [hrv] at H2
    have H2 := Lib.hid H2
    have Hrv := Lib.hid hrv
    clear hrv
    rcases idxI_cases xs p with ⟨hi, hx⟩ | ⟨i, r, hi, hx, hr, hre, hil⟩
    · rw [hi]
      have Hno := Lib.hid (remR_no2 hx)
      clear hi hx
      go_wp2_with fail
      refine H2.out.mono ?_
      rintro e w2 ⟨rfl, hb2⟩
      have Hb2 := Lib.hid (below_trans' Hb1.out hb2)
      go_wp2_with fail
      go_ret2
      exact ⟨_, ret_tup Hno.out.2, nil_spec Hno.out.1 Hb2.out, Hb2.out.alloc Hb2.out.size _⟩
    · rw [hi]
      have Hyes := Lib.hid (remR_yes Hrv.out hx)
      clear hi hx hr hre
      go_wp2_with fail
      refine H2.out.mono ?_
      rintro e w2 ⟨rfl, hb2⟩
      have Hb2 := Lib.hid (below_trans' Hb1.out hb2)
      have H3 := Lib.hid (spec_without v xs i w2 (H.out.below Hb2.out) hl hil)
      clear hb2 H2
      go_wp2_with fail
      refine H3.out.mono ?_
      rintro e w3 ⟨u, rfl, ho3, hb3⟩
      go_wp2_with fail
      go_ret2
      exact ⟨_, ret_tup Hyes.out.2, by rw [Hyes.out.1]; exact ho3.wide Hb2.out.size (Nat.le_refl _), below_trans' Hb2.out hb3⟩

set_option maxRecDepth 100000 in
set_option maxHeartbeats 1600000 in
theorem impl_rem (v : Value) (xs : List Rul) (p : ByteArray) (w : World) (h : Rt w v xs) (hs : Szr xs) (hl : xs.length ≤ 1048576) :
    Calls Try.prog 29 #[v, .string p] w fun e w' => ∃ u, e = .returned (.tuple #[u, .bool (remB xs p)]) ∧ OR w' w.heap.size w'.heap.size u (remL xs p) ∧ Below w.heap.size w w' := by
  have H := Lib.hid h
  have H1 := Lib.hid (impl_rv v xs w h hs)
  clear h hs
  go_enter Try.func29, Try.ntmps29
  go_wp2_with fail
  refine H1.out.mono ?_
  rintro e w1 ⟨rfl, hb1⟩
  have Hb1 := Lib.hid hb1
  clear H1 hb1
  cases hrv : rv xs with
  | false =>
    have Hno := Lib.hid (remR_no1 (p := p) hrv)
    clear hrv
    go_wp2_with fail
    go_ret2
    exact ⟨_, ret_tup Hno.out.2, nil_impl Hno.out.1, Hb1.out⟩
  | true =>
    have Hrv := Lib.hid hrv
    have H2 := Lib.hid (impl_idx v xs p w1 (H.out.below Hb1.out))
    have hl20 := (rv_parts hrv).len
    clear hrv
    go_wp2_with fail
    refine H2.out.mono ?_
    rintro e w2 ⟨rfl, hb2⟩
    have Hb2 := Lib.hid (below_trans' Hb1.out hb2)
    clear H2 hb2
    rcases idxI_cases xs p with ⟨hi, hx⟩ | ⟨i, r, hi, hx, hr, hre, hil⟩
    · rw [hi]
      have Hno := Lib.hid (remR_no2 hx)
      clear hi hx
      go_wp2_with fail
      go_ret2
      exact ⟨_, ret_tup Hno.out.2, nil_impl Hno.out.1, Hb2.out⟩
    · rw [hi]
      have Hyes := Lib.hid (remR_yes Hrv.out hx)
      have h := H.out.below Hb2.out
      obtain ⟨A, c, rfl, hA, hc1, hc2⟩ := h
      have Hc2 := Lib.hid hc2
      unfold maxLen at hc2
      obtain ⟨ad, y, rfl, _, _, _⟩ := hA.two hil
      have HA := Lib.hid hA
      have hfl : [xs.take i, xs.drop (i + 1)].flatten = dropAt xs i := by simp [dropAt]
      have Hfl := Lib.hid hfl
      have hdl := drop_num hil
      have hdl2 : (dropAt xs i).length ≤ 20 := by omega
      have HT : Hid (∀ W D m d, Below w2.heap.size w2 W → D = (if c = i + 1 then some ad else some (ad.add ((i + 1) * 2))) → m = xs.length - (i + 1) → d = c - (i + 1) → SlRows Rt W [.slice (some ad) i c, .slice D m d] [xs.take i, xs.drop (i + 1)]) := Lib.hid fun W D m d hb hD hm hd => by
        subst hD hm hd
        refine ⟨rfl, fun j u l h1 h2 => ?_⟩
        have hj : j = 0 ∨ j = 1 := by
          have := (List.getElem?_eq_some_iff.1 h1).1
          simp at this; omega
        rcases hj with rfl | rfl
        · simp at h1 h2
          subst h1 h2
          exact Rt.take (HA.out.below hb) (by omega) hc1 Hc2.out
        · simp at h1 h2
          subst h1 h2
          exact ⟨_, _, by rw [List.length_drop], (HA.out.below hb).dropI hc1, by rw [List.length_drop]; omega, by have := Hc2.out; omega⟩
      clear hi hx hr hre hA hfl hdl
      by_cases hci : c = i + 1
      · subst hci
        have Hz : Hid (0 = xs.length - (i + 1)) := Lib.hid (by omega)
        have hb1 : i + 1 ≤ xs.length := by omega
        have hb3 : (i : Int) + 1 ≤ (xs.length : Int) := by omega
        have hb6 : (0 : Int) ≤ (i : Int) + 1 := by omega
        have hb7 : IntKind.i64.wrap ((i : Int) + 1) = (i : Int) + 1 := by rw [IntKind.wrap_i64]; omega
        have hb9 : i ≤ xs.length := by omega
        have hb8 : i ≤ i + 1 := by omega
        go_wp2_with fail
        go_region_with ((go_at_call 64; (refine (concat_any (some ⟨_, 0, none⟩) 2 [.slice (some ad) i (i + 1), .slice (some ad) (0) (0)] [xs.take i, xs.drop (i + 1)] _ (by first | exact (rd_new w2 _ _).below ((Below.refl _ _).drew) | exact rd_new _ _ _) (HT.out _ (some ad) 0 0 (by first | exact ((Below.refl _ _).drew).alloc (Nat.le_refl _) _ | exact ((Below.refl _ _).alloc (Nat.le_refl _) _).drew | exact (Below.refl _ _).alloc (Nat.le_refl _) _) (by simp) (by omega) (by simp)) (by simp) (by rw [Hfl.out]; omega)).mono ?_; rintro e w5 ⟨u, rfl, ho5, hb5⟩; rw [Hfl.out] at ho5)))
        all_goals
          have Hb5 := Lib.hid (below_step (Hb2.out.alloc Hb2.out.size _).drew (Nat.le_trans Hb2.out.size (by simp)) hb5)
          have Ho5 := Lib.hid ho5
          clear ho5 hb5
          go_wp2_with fail
          go_ret2
          exact ⟨_, ret_tup Hyes.out.2, by rw [Hyes.out.1]; exact own_of (own_base Ho5.out (Nat.le_trans Hb2.out.size (by simp))), Hb5.out⟩
      · have Hci := Lib.hid hci
        have hb1 : i + 1 ≤ xs.length := by omega
        have hb2 : i + 1 ≤ c := by omega
        have hb3 : (i : Int) + 1 ≤ (xs.length : Int) := by omega
        have hb4 : (i : Int) + 1 ≤ (c : Int) := by omega
        have hb5 : ¬ (i + 1 = c) := by omega
        have hb6 : (0 : Int) ≤ (i : Int) + 1 := by omega
        have hb7 : IntKind.i64.wrap ((i : Int) + 1) = (i : Int) + 1 := by rw [IntKind.wrap_i64]; omega
        have hb9 : i ≤ xs.length := by omega
        have hb8 : i ≤ c := by omega
        go_wp2_with fail
        go_region_with ((go_at_call 64; (refine (concat_any (some ⟨_, 0, none⟩) 2 [.slice (some ad) i (c), .slice (some (ad.add ((i + 1) * 2))) (xs.length - (i + 1)) (c - (i + 1))] [xs.take i, xs.drop (i + 1)] _ (by first | exact (rd_new w2 _ _).below ((Below.refl _ _).drew) | exact rd_new _ _ _) (HT.out _ (some (ad.add ((i + 1) * 2))) (xs.length - (i + 1)) (c - (i + 1)) (by first | exact ((Below.refl _ _).drew).alloc (Nat.le_refl _) _ | exact ((Below.refl _ _).alloc (Nat.le_refl _) _).drew | exact (Below.refl _ _).alloc (Nat.le_refl _) _) (by simp [Hci.out]) (by first | rfl | omega) (by first | rfl | omega)) (by simp) (by rw [Hfl.out]; omega)).mono ?_; rintro e w5 ⟨u, rfl, ho5, hb5⟩; rw [Hfl.out] at ho5)))
        all_goals
          have Hb5 := Lib.hid (below_step (Hb2.out.alloc Hb2.out.size _).drew (Nat.le_trans Hb2.out.size (by simp)) hb5)
          have Ho5 := Lib.hid ho5
          clear ho5 hb5
          go_wp2_with fail
          go_ret2
          exact ⟨_, ret_tup Hyes.out.2, by rw [Hyes.out.1]; exact own_of (own_base Ho5.out (Nat.le_trans Hb2.out.size (by simp))), Hb5.out⟩

end Go.Proofs.Ytkfbgoahppfelaa
