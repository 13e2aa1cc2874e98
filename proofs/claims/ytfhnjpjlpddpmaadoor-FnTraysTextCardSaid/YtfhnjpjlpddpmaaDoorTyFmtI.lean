
/- The text of trays, by the program's function. -/
import Derived.Test.YtfhnjpjlpddpmaaDoorTyFmtS
import Derived.Test.YtfhnjpjlpddpmaaDoorTyShelf
namespace Go.Proofs.YtfhnjpjlpddpmaaDoor
open Go.RowKit
set_option linter.unusedVariables false

def strs (xs : List ByteArray) : List Value := xs.map Value.string
theorem strs_get {xs : List ByteArray} {k : Nat} {x : ByteArray} (h : xs[k]? = some x) : (strs xs)[k]? = some (.string x) := by simp [strs, h]
theorem strs_set (xs : List ByteArray) (k : Nat) (x : ByteArray) : (strs xs).set k (.string x) = strs (xs.set k x) := by simp [strs, List.map_set]
theorem str_info : (Tryd.prog.info? 9).map (fun i => (i.zero, i.size, i.bytes)) = some (some (.string ⟨#[]⟩), 1, 16) := by kernel_rfl
theorem made_strs (n : Nat) : (madeCells (Value.string ⟨#[]⟩).cells (n * 1)).toList = strs (List.replicate n ⟨#[]⟩) := by
  have : (Value.string ⟨#[]⟩).cells = #[.string ⟨#[]⟩] := rfl
  rw [this, Nat.mul_one, made_toList, strs, List.map_replicate]
theorem itoa_any (n : Nat) (w : World) (hn : n < 100) :
    Calls Tryd.prog 19 #[.int .i64 n] w fun e w' => e = .returned (.string (num n)) ∧ w = w' :=
  (sh_strconv_Itoa_small n hn w).mono fun e w' ⟨h1, h2⟩ => ⟨by rw [h1, num_dec hn], h2.symm⟩
theorem part_size {ts : List (List Ltr)} {y : ByteArray × ByteArray} (h : y ∈ prs ts) : (partT y).size ≤ 18 := by
  have h1 := prs_size ts y h
  have z1 : (⟨#[58]⟩ : ByteArray).size = 1 := rfl
  rw [partT, ByteArray.size_append, ByteArray.size_append]; omega

set_option maxRecDepth 100000 in
set_option maxHeartbeats 1600000 in
theorem impl_fmtT (v : Value) (xss : List (List Ltr)) (w : World) (h : LtS w v xss) (hs : ∀ xs ∈ xss, Szs xs) :
    Calls Tryd.prog 8 #[v] w fun e w' => e = .returned (.string (fmtT xss)) ∧ Below w.heap.size w w' := by
  have H1 := Lib.hid (impl_tv v xss 20 w h hs)
  have Hs := Lib.hid hs
  obtain ⟨us, ⟨A, c, rfl, hA, hc1, hc2⟩, hus⟩ := h
  unfold maxLen at hc2
  have HA := Lib.hid hA
  have Hus := Lib.hid hus
  have Hul := Lib.hid hus.len
  clear hs hA hus
  go_enter Tryd.func8, Tryd.ntmps8
  go_wp2_with fail
  refine H1.out.mono ?_
  rintro e w1 ⟨rfl, hb1⟩
  have Hb1 := Lib.hid hb1
  clear H1 hb1
  cases htv : tv xss 20 with
  | false =>
    have Hno := Lib.hid (fmtT_no htv)
    clear htv
    go_wp2_with fail
    go_ret
    exact ⟨ret_str Hno.out.symm, Hb1.out⟩
  | true =>
    have Htv := Lib.hid htv
    have hl60 : us.length ≤ 60 := by rw [Hul.out]; exact (tv_parts htv).2.2.1
    clear htv
    by_cases h0 : us.length = 0
    · have e0 : ((us.length : Int) == 0) = true := by simp [h0]
      have Hyes := Lib.hid (fmtT_nil Htv.out (by rw [← Hul.out]; exact h0))
      clear h0
      go_wp2_with fail
      go_ret
      exact ⟨ret_str Hyes.out.symm, Hb1.out⟩
    · have e0 : ((us.length : Int) == 0) = false := by simp only [beq_eq_false_iff_ne]; omega
      have hpos : 0 < xss.length := by rw [← Hul.out]; omega
      have Hpos := Lib.hid hpos
      have Hpl : Hid ((prs xss).length = us.length) := Lib.hid (by rw [prs_len, Hul.out])
      obtain ⟨i0, hi, hz0, hz1, hz2⟩ := info_parts str_info
      clear h0 hpos
      go_wp2_with (at_make; refine wpList_make_full _ rfl _ _ _ rfl w.heap.size 9 i0 _ 1 Tryd.underlying42 hi hz0 hz1 _ _ _ _ us.length rfl rfl rfl rfl (by rw [hz2]; omega) (by unfold maxLen; omega) Hb1.out.size ?_; intro w2 hown2 hg2)
      have Hb2 : Hid (Below w.heap.size w w2) := Lib.hid (Hb1.out.grown hg2 Hb1.out.size (by simp))
      have H0 : Hid (∃ ys, Filled ys ((prs xss).map partT) 0 ∧ w2.ownsRow w.heap.size 9 1 (.slice (some ⟨w1.heap.size, 0, none⟩) us.length us.length) us.length (strs ys)) := Lib.hid ⟨List.replicate us.length ⟨#[]⟩, ⟨by rw [List.length_map, Hpl.out]; simp, by simp⟩, by rw [made_strs] at hown2; exact hown2⟩
      have Hg := Lib.hid Hb1.out.size
      clear hown2 hg2
      go_loopw [17] (fun i wr => ∃ k : Nat, k ≤ us.length ∧ i = .int .i64 k ∧ Hid (Below w.heap.size w wr) ∧ Hid (∃ ys, Filled ys ((prs xss).map partT) k ∧ wr.ownsRow w.heap.size 9 1 (.slice (some ⟨w1.heap.size, 0, none⟩) us.length us.length) us.length (strs ys))) (fun i _ => us.length - (intOf i).toNat)
      case atStart => exact ⟨0, Nat.zero_le _, rfl, Hb2, H0⟩
      case round =>
        obtain ⟨k, hk, rfl, Hb, Hys⟩ := hrel
        clear H0 Hb2
        by_cases hlt : k < us.length
        · obtain ⟨p, x, hp, hx, hpx⟩ := Hus.out.at_ (k := k) (by have := Hul.out; omega)
          obtain ⟨ad, rfl, hcA⟩ := (HA.out.below Hb.out) k _ hp
          have hpx' := hpx.below Hb.out
          have Hpx := Lib.hid hpx'
          obtain ⟨PA, pc, rfl, _, hx1, hx2⟩ := hpx
          have Hsx := Lib.hid (Hs.out x (List.mem_of_getElem? hx))
          have hlx : x.length < 100 := by have := ((tv_parts Htv.out).1 x (List.mem_of_getElem? hx)).2; omega
          have hls := label_size x
          have hns := (num_size x.length).2
          have z1 : (⟨#[58]⟩ : ByteArray).size = 1 := rfl
          have q1 : (label x ++ (⟨#[58]⟩ : ByteArray)).size ≤ 16 := by rw [ByteArray.size_append]; omega
          have q2 : (label x ++ (⟨#[58]⟩ : ByteArray) ++ num x.length).size ≤ 18 := by rw [ByteArray.size_append]; omega
          have Hxp : Hid (((prs xss).map partT)[k]? = some (label x ++ (⟨#[58]⟩ : ByteArray) ++ num x.length)) := Lib.hid (by rw [List.getElem?_map, prs_get hx]; rfl)
          have HL := Lib.hid (impl_label _ x wr hpx' Hsx.out)
          clear hp hx hpx'
          go_wp2_with fail
          refine HL.out.mono ?_
          rintro e w3 ⟨rfl, hb3⟩
          have Hb3 := Lib.hid (below_trans' Hb.out hb3)
          obtain ⟨ys, hf, hown0⟩ := Hys.out
          have hown := own_below hown0 hb3
          have hyk : k < ys.length := Nat.lt_of_lt_of_eq (Nat.lt_of_lt_of_eq hlt Hpl.out.symm) (by rw [hf.len, List.length_map])
          have hc3 : w3.cell? ⟨w1.heap.size, k, none⟩ = some (.string ys[k]) := (hown.cellAt _ (by omega)).trans (strs_get (List.getElem?_eq_getElem hyk))
          have hf3 : w3.frozen? ⟨w1.heap.size, k, none⟩ = false := hown.frozenAt _
          have Hf := Lib.hid (hf.step Hxp.out)
          have hst := (hown.stored k (.string (label x ++ (⟨#[58]⟩ : ByteArray) ++ num x.length))).1
          rw [strs_set] at hst
          have Hst := Lib.hid hst
          have HB : Hid (Below w.heap.size w (w3.setCell ⟨w1.heap.size, k, none⟩ (.string (label x ++ (⟨#[58]⟩ : ByteArray) ++ num x.length)))) := Lib.hid (Hb3.out.setCell Hg.out _)
          clear hf hown hown0 hst hb3 HL
          go_wp2_with fail
          refine (itoa_any x.length _ hlx).mono ?_
          rintro e w' ⟨rfl, rfl⟩
          go_wp2_with fail
          go_roundw
          case rel => exact ⟨k + 1, by omega, by go_num, HB, Lib.hid ⟨_, Hf.out, Hst.out⟩⟩
          case measure => simp [intOf]; omega
        · have hk' : k = us.length := by omega
          subst hk'
          obtain ⟨ys, hf, hown⟩ := Hys.out
          have hll : ((prs xss).map partT).length = us.length := by rw [List.length_map, Hpl.out]
          have hys : ys = (prs xss).map partT := by
            have := hf.head
            rwa [List.take_of_length_le (by rw [hf.len, hll]; exact Nat.le_refl _), List.take_of_length_le (by rw [hll]; exact Nat.le_refl _)] at this
          subst hys
          have HJ := sh_strings_Join w1.heap.size 0 us.length ((prs xss).map partT) ⟨#[32]⟩ wr (fun j x hj => by rw [Nat.zero_add]; exact (hown.cellAt j (by have := (List.getElem?_eq_some_iff.1 hj).1; rw [hll] at this; omega)).trans (strs_get hj)) (hown.lt _ rfl).2 (by rw [hll]; omega) (by rw [hll]; exact Nat.le_refl _) (by
            have := join_len (m := 18) (sep := (⟨#[32]⟩ : ByteArray).data.toList) rfl (l := ((prs xss).map partT).map (·.data.toList)) (fun y hy => by
              simp only [List.map_map, List.mem_map, Function.comp] at hy
              obtain ⟨x, hx, rfl⟩ := hy
              simpa using part_size hx)
            refine Nat.le_trans this ?_
            rw [List.length_map, hll]
            omega)
          rw [hll] at HJ
          have HJ := Lib.hid HJ
          have Hyes := Lib.hid (fmtT_yes Htv.out Hpos.out)
          have Hfj := Lib.hid (fm_join (xs := prs xss) (by rw [prs_len]; exact Hpos.out))
          clear hf hown hll
          go_wp2_with fail
          refine HJ.out.mono ?_
          rintro e w5 ⟨rfl, hb5⟩
          go_wp2_with fail
          go_ret
          exact ⟨ret_str (by rw [Hyes.out, ← Hfj.out]; simp only [List.map_map]), below_trans' Hb.out hb5⟩
end Go.Proofs.YtfhnjpjlpddpmaaDoor
