
/- The walk of impl.FormatNetwork. -/
import Derived.Test.YthmngaioimohaaaNtN
namespace Go.Proofs.Ythmngaioimohaaa
open Go.RowKit
set_option linter.unusedVariables false

set_option maxRecDepth 100000 in
set_option maxHeartbeats 2000000 in
theorem impl_fmtN (v : Value) (net : List Off) (w : World) (h : InO w v net) (hs : SzO net) :
    Calls Try.prog 13 #[v] w fun e w' => e = .returned (.string (fmtN net)) ∧ Below w.heap.size w w' := by
  have H1 := Lib.hid (impl_nv v net w h hs)
  have H := Lib.hid h
  have Hs := Lib.hid hs
  obtain ⟨A, c, rfl, hc1, hc2⟩ := h.form
  unfold maxLen at hc2
  clear hs h
  go_enter Try.func13, Try.ntmps13
  go_wp2_with fail
  refine H1.out.mono ?_
  rintro e w1 ⟨rfl, hb1⟩
  have Hb1 := Lib.hid hb1
  clear H1 hb1
  cases hnv : nv net with
  | false =>
    have Hno := Lib.hid (fmtN_no hnv)
    clear hnv
    go_wp2_with fail
    go_ret
    exact ⟨ret_str Hno.out.symm, Hb1.out⟩
  | true =>
    have Hyes := Lib.hid (fmtN_yes hnv)
    have Hsz := Lib.hid (show ∀ o ∈ net, o.1.size ≤ 8 from fun o ho => nameB_le ((nv_parts hnv).name o ho))
    have hl8 := (nv_parts hnv).len.2
    have Hpos := Lib.hid (nv_parts hnv).len.1
    obtain ⟨i0, hi, hz0, hz1, hz2⟩ := info_parts str_info
    clear hnv
    go_wp2_with (at_make; refine wpList_make_full _ rfl _ _ _ rfl w.heap.size 9 i0 _ 1 Try.underlying33 hi hz0 hz1 _ _ _ _ net.length rfl rfl rfl rfl (by rw [hz2]; omega) (by unfold maxLen; omega) Hb1.out.size ?_; intro w2 hown2 hg2)
    have Hb2 : Hid (Below w.heap.size w w2) := Lib.hid (Hb1.out.grown hg2 Hb1.out.size (by simp))
    have H0 : Hid (∃ ys, Filled ys (net.map offT) 0 ∧ w2.ownsRow w.heap.size 9 1 (.slice (some ⟨w1.heap.size, 0, none⟩) net.length net.length) net.length (strs ys)) := Lib.hid ⟨List.replicate net.length ⟨#[]⟩, ⟨by simp, by simp⟩, by rw [made_strs] at hown2; exact hown2⟩
    have Hg := Lib.hid Hb1.out.size
    clear hown2 hg2
    go_loopw [14] (fun i wr => ∃ k : Nat, k ≤ net.length ∧ i = .int .i64 k ∧ Hid (Below w.heap.size w wr) ∧ Hid (∃ ys, Filled ys (net.map offT) k ∧ wr.ownsRow w.heap.size 9 1 (.slice (some ⟨w1.heap.size, 0, none⟩) net.length net.length) net.length (strs ys))) (fun i _ => net.length - (intOf i).toNat)
    case atStart => exact ⟨0, Nat.zero_le _, rfl, Hb2, H0⟩
    case round =>
      obtain ⟨k, hk, rfl, Hb, Hys⟩ := hrel
      clear H0 Hb2
      by_cases hlt : k < net.length
      · obtain ⟨ad, o, u, rfl, hx, hcA, hcB, hru⟩ := (H.out.below Hb.out).at_ hlt
        have Hru := Lib.hid hru
        obtain ⟨UA, uc, rfl, hu1, hu2, hu3⟩ := hru
        have hx1 := Hsz.out o (List.mem_of_getElem? hx)
        have HQ2 := Lib.hid (Hs.out o (List.mem_of_getElem? hx)).2
        have hr := fmtR_size o.2
        have z2 : (⟨#[32]⟩ : ByteArray).size = 1 := rfl
        have q1 : (o.1 ++ (⟨#[32]⟩ : ByteArray)).size ≤ 9 := by rw [ByteArray.size_append]; omega
        have q2 : (o.1 ++ (⟨#[32]⟩ : ByteArray) ++ fmtR o.2).size ≤ 350 := by rw [ByteArray.size_append]; omega
        have Hml : Hid ((net.map offT).length = net.length) := Lib.hid (List.length_map _)
        have Hx := Lib.hid hx
        have HL : Hid (∀ ob, (wr.alloc ob).heap[wr.heap.size]? = some ob) := Lib.hid fun ob => heap_alloc_last wr ob
        have Hru2 : Hid (∀ ob, Rt (wr.alloc ob) (.slice UA o.2.length uc) o.2) := Lib.hid fun ob => Sl.below Hru.out ((Below.refl _ _).alloc (Nat.le_refl _) ob)
        clear hx hu1
        go_wp2_with fail
        go_region_with (go_at_call 33; refine (impl_fmt _ o.2 _ (Sl.below (Hru2.out _) (by first | exact (Below.refl _ _).drew | exact Below.refl _ _)) HQ2.out).mono ?_; rintro e w2 ⟨rfl, hb2⟩; have hL : w2.heap[wr.heap.size]? = some (.cells #[.string o.1, .slice UA o.2.length uc] 46 (0, 0)) := (hb2.block _ (by simp)).trans (HL.out _); have c1 : w2.cell? ⟨wr.heap.size, 0, none⟩ = some (.string o.1) := (cell_of_row _ _ _ _ _ _ hL).trans rfl; obtain ⟨ys, hf, hown⟩ := Hys.out; have Hf := Lib.hid hf; have hown2 := own_below hown (below_trans' ((Below.refl _ _).alloc (Nat.le_refl _) _).drew hb2); have hyk : k < ys.length := Nat.lt_of_lt_of_eq (Nat.lt_of_lt_of_eq hlt Hml.out.symm) hf.len.symm; have hc3 : w2.cell? ⟨w1.heap.size, k, none⟩ = some (.string ys[k]) := (hown2.cellAt _ (by omega)).trans (strs_get (List.getElem?_eq_getElem hyk)); have hf3 : w2.frozen? ⟨w1.heap.size, k, none⟩ = false := hown2.frozenAt _; have Hown2 := Lib.hid hown2; clear hf hown hown2)
        all_goals
          have hst := (Hown2.out.stored k (.string (offT o))).1
          rw [strs_set] at hst
          have Hst := Lib.hid hst
          have Hf2 := Lib.hid (Hf.out.step (show (net.map offT)[k]? = some (offT o) by simp [Hx.out]))
          have hb3 := below_trans' (Hb.out.alloc Hb.out.size _).drew hb2
          have HB : Hid (Below w.heap.size w (w2.setCell ⟨w1.heap.size, k, none⟩ (.string (offT o)))) := Lib.hid (hb3.setCell Hg.out _)
          clear hst hb3 hb2 c1 hL hc3 hf3 hcA hcB
          go_wp2_with fail
          go_roundw
          case rel => exact ⟨k + 1, by omega, by go_num, HB, Lib.hid ⟨_, Hf2.out, Hst.out⟩⟩
          case measure => simp [intOf]; omega
      · have hk' : k = net.length := by omega
        subst hk'
        obtain ⟨ys, hf, hown⟩ := Hys.out
        have hys : ys = net.map offT := by
          have := hf.head
          rwa [List.take_of_length_le (by rw [hf.len]; simp), List.take_of_length_le (by simp)] at this
        subst hys
        have hll : (net.map offT).length = net.length := by simp
        have HJ := join_any w1.heap.size 0 net.length (net.map offT) ⟨#[59]⟩ wr (fun j x hj => by rw [Nat.zero_add]; exact (hown.cellAt j (by have := (List.getElem?_eq_some_iff.1 hj).1; rw [hll] at this; omega)).trans (strs_get hj)) (hown.lt _ rfl).2 (by rw [hll]; omega) (by rw [hll]; exact Nat.le_refl _) (by
          have := join_len (m := 350) (sep := (⟨#[59]⟩ : ByteArray).data.toList) rfl (l := (net.map offT).map (·.data.toList)) (fun y hy => by
            simp only [List.map_map, List.mem_map, Function.comp] at hy
            obtain ⟨x, hx, rfl⟩ := hy
            have h1 := Hsz.out x hx
            have h2 := fmtR_size x.2
            have z1 : (⟨#[32]⟩ : ByteArray).size = 1 := rfl
            have : (offT x).size ≤ 350 := by rw [offT, ByteArray.size_append, ByteArray.size_append]; omega
            simpa using this)
          refine Nat.le_trans this ?_
          simp only [List.length_map]
          omega)
        rw [hll] at HJ
        have HJ := Lib.hid HJ
        have Hfj := Lib.hid (net_join Hpos.out)
        clear hf hown hll
        go_wp2_with fail
        refine HJ.out.mono ?_
        rintro e w5 ⟨rfl, hb5⟩
        go_wp2_with fail
        go_ret
        exact ⟨ret_str (by rw [Hyes.out, ← Hfj.out]; simp only [List.map_map]), below_trans' Hb.out hb5⟩

end Go.Proofs.Ythmngaioimohaaa
