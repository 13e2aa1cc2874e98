
/- The walk of the law on the text of trays. -/
import Derived.Test.YtfhnjpjlpddpmaaDoorTyLawB
import Derived.Test.YtfhnjpjlpddpmaaDoorTyFmtI
namespace Go.Proofs.YtfhnjpjlpddpmaaDoor
open Go.RowKit
set_option linter.unusedVariables false

set_option maxHeartbeats 800000 in
theorem draw_format (A : Option Addr) (c : Nat) (bs : List Int) (w : World) (h : Coded w A bs c) :
    Calls Tryd.prog 10 #[.slice A bs.length c] w fun e w' => ∃ (v : Value) (xss : List (List Ltr)), e = .returned v ∧ LtS w' v xss ∧ xss.length ≤ 1001 ∧ (∀ xs ∈ xss, Szs xs ∧ xs.length ≤ 61) ∧ Below w.heap.size w w' := by
  have H := Lib.hid (draw_empty A c bs w h)
  clear h
  go_enter Tryd.func10, Tryd.ntmps10
  go_wp2_with fail
  refine H.out.mono ?_
  rintro e w1 ⟨v, xss, rfl, h1, h2, h3, h4⟩
  go_wp2_with fail
  go_ret
  exact ⟨_, xss, rfl, h1, h2, h3, h4⟩

/-- Tray m of a slice of trays: its cell. -/
theorem LtS.at_ {w : World} {D : Option Addr} {n d : Nat} {xss : List (List Ltr)} (h : LtS w (.slice D n d) xss) {m : Nat} (hm : m < n) : ∃ ad u x, D = some ad ∧ xss[m]? = some x ∧ w.cell? (ad.add m) = some u ∧ Lt w u x := by
  obtain ⟨us, ⟨A, c, e, hA, _, _⟩, hus⟩ := h
  injection e with e1 e2 e3
  subst e1
  have hl := hus.len
  obtain ⟨p, x, hp, hx, hpx⟩ := hus.at_ (k := m) (by omega)
  obtain ⟨ad, e4, hc⟩ := hA m _ hp
  exact ⟨ad, p, x, e4, hx, hc, hpx⟩
theorem fmtT_empty {xss : List (List Ltr)} : (fmtT xss).toList.isEmpty = !(tv xss 20) := by
  cases h : tv xss 20 with
  | false => rw [fmtT_no h, tl_data]; rfl
  | true =>
    by_cases h0 : xss.length = 0
    · rw [fmtT_nil h h0, tl_data]; rfl
    · rw [fmtT_yes h (by omega), fm_ne (by rw [prs_len]; omega)]; rfl
theorem eq_empty (s : ByteArray) : (s.toList == (⟨#[]⟩ : ByteArray).toList) = s.toList.isEmpty := by
  rw [tl_data, tl_data]
  cases s.data.toList <;> rfl

theorem conv_drew (w : World) (q n : Nat) (x : Int) (hx : x = (n : Int)) (hn : n < 256) :
    (convert 29 9 (.slice (some ⟨w.heap.size, 0, none⟩) 1 1)).run Tryd.prog ((w.drewN q).alloc (.cells #[.int .u8 x] 5)) = .ok (.string (one8 n)) ((w.drewN q).alloc (.cells #[.int .u8 x] 5)) := conv_one (w.drewN q) n x hx hn
theorem conv_drew2 (w : World) (o : Obj) (q n : Nat) (x : Int) (hx : x = (n : Int)) (hn : n < 256) :
    (convert 29 9 (.slice (some ⟨w.heap.size + 1, 0, none⟩) 1 1)).run Tryd.prog (((w.drewN q).alloc o).alloc (.cells #[.int .u8 x] 5)) = .ok (.string (one8 n)) (((w.drewN q).alloc o).alloc (.cells #[.int .u8 x] 5)) := by
  have h := conv_one ((w.drewN q).alloc o) n x hx hn
  rw [World.size_alloc] at h
  exact h

set_option maxRecDepth 100000 in
set_option maxHeartbeats 3200000 in
theorem law_FnTraysText (A : Option Addr) (c : Nat) (bs : List Int) (w : World) (h0 : Coded0 w A bs c) :
    Calls Tryd.prog 4 #[.slice A bs.length c] w fun e w' => e = .returned (.bool true) ∧ Below w.heap.size w w' := by
  by_cases hbig : 1048576 < bs.length
  · go_enter Tryd.func4, Tryd.ntmps4
    go_wp2_with fail
    go_ret
    exact ⟨rfl, Below.refl _ _⟩
  have Hdr := Lib.hid (draw_format A c bs w (h0.coded hbig))
  clear h0
  go_enter Tryd.func4, Tryd.ntmps4
  go_wp2_with fail
  refine Hdr.out.mono ?_
  rintro e w1 ⟨v, xss, rfl, h, hl, hs, hb⟩
  have Hs : Hid (∀ xs ∈ xss, Szs xs) := Lib.hid fun xs hx => (hs xs hx).1
  have Hb := Lib.hid hb
  have H := Lib.hid h
  obtain ⟨T, hT⟩ : ∃ T, T = fmtT xss := ⟨_, rfl⟩
  have HT := Lib.hid hT
  have H1 := Lib.hid (impl_fmtT v xss w1 h Hs.out)
  rw [← hT] at H1
  have t0 : (T.toList == T.toList) = true := str_same rfl
  clear hs hb h Hdr hT
  go_wp2_with fail
  refine H1.out.mono ?_
  rintro e w2 ⟨rfl, hb2⟩
  replace H := Lib.hid (H.out.below hb2)
  replace Hb := Lib.hid (below_trans' Hb.out hb2)
  have H2 := Lib.hid (spec_fmtT v xss w2 H.out Hs.out)
  rw [← HT.out] at H2
  clear H1 hb2
  go_wp2_with fail
  refine H2.out.mono ?_
  rintro e w3 ⟨rfl, hb3⟩
  replace H := Lib.hid (H.out.below hb3)
  replace Hb := Lib.hid (below_trans' Hb.out hb3)
  have H3 := Lib.hid (impl_tv v xss 20 w3 H.out Hs.out)
  clear H2 hb3
  cases htv : tv xss 20 with
  | false =>
    rw [htv] at H3
    have Hno := Lib.hid htv
    have e1 : T.toList.isEmpty = true := by rw [HT.out, fmtT_empty, htv]; rfl
    have e2 : (T.toList == (⟨#[]⟩ : ByteArray).toList) = true := by rw [eq_empty, e1]
    clear htv
    go_wp2_with fail
    refine H3.out.mono ?_
    rintro e w5 ⟨rfl, hb5⟩
    replace H := Lib.hid (H.out.below hb5)
    replace Hb := Lib.hid (below_trans' Hb.out hb5)
    have H4 := Lib.hid (spec_fmtT v xss w5 H.out Hs.out)
    rw [← HT.out] at H4
    clear H3 hb5
    go_wp2_with fail
    refine H4.out.mono ?_
    rintro e w6 ⟨rfl, hb6⟩
    replace Hb := Lib.hid (below_trans' Hb.out hb6)
    have H7 := Lib.hid (impl_tv v xss 20 w6 (H.out.below hb6) Hs.out)
    rw [Hno.out] at H7
    clear hb6 H4
    go_wp2_with fail
    refine H7.out.mono ?_
    rintro e w7 ⟨rfl, hb7⟩
    go_wp2_with fail
    go_ret
    exact ⟨rfl, below_trans' Hb.out hb7⟩
  | true =>
    rw [htv] at H3
    have Hyes := Lib.hid htv
    have e1 : T.toList.isEmpty = false := by rw [HT.out, fmtT_empty, htv]; rfl
    have e2 : (T.toList == (⟨#[]⟩ : ByteArray).toList) = false := by rw [eq_empty, e1]
    clear htv
    have h := H.out
    obtain ⟨us, ⟨D, d, rfl, hD, hd1, hd2⟩, hus⟩ := h
    unfold maxLen at hd2
    have Hul := Lib.hid hus.len
    have hl60 : us.length ≤ 60 := by rw [hus.len]; exact (tv_parts Hyes.out).2.2.1
    have HP := Lib.hid (prs_size xss)
    clear hD hus
    go_wp2_with fail
    refine H3.out.mono ?_
    rintro e w5 ⟨rfl, hb5⟩
    replace H := Lib.hid (H.out.below hb5)
    replace Hb := Lib.hid (below_trans' Hb.out hb5)
    clear H3 hb5
    go_wp2_with fail
    go_loopw [5, 6] (fun o i wr => ∃ (m : Nat) (s : ByteArray), m ≤ us.length ∧ i = .int .i64 m ∧ o = .string s ∧ Hid (s = fmT (prs xss) m) ∧ s.size ≤ 1200 ∧ Hid (Below w5.heap.size w5 wr)) (fun _ i _ => us.length - (intOf i).toNat)
    case atStart => exact ⟨0, ⟨#[]⟩, Nat.zero_le _, rfl, rfl, Lib.hid rfl, by show (0 : Nat) ≤ 1200; omega, Lib.hid (Below.refl _ _)⟩
    case round =>
      obtain ⟨m, s, hm, rfl, rfl, Hse, hss, Hb6⟩ := hrel
      by_cases hlt : m < us.length
      · obtain ⟨ad, p, x, rfl, hx, hcA, hpx⟩ := (H.out.below Hb6.out).at_ hlt
        have hxm := List.mem_of_getElem? hx
        have hxl := (tv_parts Hyes.out).1 x hxm
        have hbv := tray_bv Hyes.out hxm
        have Hlab := Lib.hid (impl_label p x wr hpx (Hs.out x hxm))
        obtain ⟨PA, pc, rfl, hPA, hp1, hp2⟩ := hpx
        unfold maxLen at hp2
        obtain ⟨y, z, hy, hz⟩ := ends_at (xs := x) (by omega)
        obtain ⟨tad, rfl, hcX, hcY⟩ := label_cells hPA (by omega) hy hz
        have hy7 := codeB_size ((bv_parts hbv).2.1 y (List.mem_of_getElem? hy)).1
        have hz7 := codeB_size ((bv_parts hbv).2.1 z (List.mem_of_getElem? hz)).1
        have t2 : ((label x).toList == (y.2 ++ (⟨#[45]⟩ : ByteArray) ++ z.2).toList) = true := str_same (label_yes hbv hy hz)
        have hle := fm_size HP.out (m + 1)
        replace hle : (fmT (prs xss) (m + 1)).size ≤ 1200 := by omega
        have hls := label_size x
        have hx1 : 1 ≤ x.length := hxl.1
        have hx20 : x.length ≤ 20 := by omega
        have hxp := prs_get hx
        have s1 := one8_size (48 + x.length / 10)
        have s2 := one8_size (48 + x.length % 10)
        clear hx hxl hbv hPA hp1 hy hz hxm
        by_cases hm0 : 0 < m
        · have h0' : (0 : Int) < (m : Int) := by omega
          have Hnx : Hid (s ++ ⟨#[32]⟩ ++ label x ++ ⟨#[58]⟩ ++ num x.length = fmT (prs xss) (m + 1)) := Lib.hid (by rw [fm_next hxp hm0, ← Hse.out])
          clear hxp hm0
          go_wp2_with fail
          refine Hlab.out.mono ?_
          rintro e w8 ⟨rfl, hb8⟩
          have hcA8 : w8.cell? (ad.add m) = some (.slice (some tad) x.length pc) := cell_later hb8 hcA
          have hcX8 := cell_later hb8 hcX
          have hcY8 := cell_later hb8 hcY
          have hb8' := below_trans' Hb6.out hb8
          have Hb8 := Lib.hid hb8'
          clear hb8 hb8' hcA hcX hcY
          go_wp2_with fail
          go_quiet (fail)
          have h8n : ∀ n, Below w5.heap.size w5 (w8.drewN n) := fun n => below_drewN Hb8.out n
          have H8n := Lib.hid h8n
          clear h8n
          by_cases h10 : x.length < 10
          · have i9 : decide ((9 : Int) < (x.length : Int)) = false := decide_eq_false (by omega)
            have hcv := fun q => conv_drew w8 q (48 + x.length % 10) (48 + ((x.length : Int) % 10)) (by omega) (by omega)
            have Hm : Hid (num x.length = one8 (48 + x.length % 10)) := Lib.hid (by rw [num_one h10, Nat.mod_eq_of_lt h10])
            have Hnx2 := Hnx
            rw [Hm.out] at Hnx2
            clear h10
            go_wp2_with fail
            go_roundw
            case rel => exact ⟨m + 1, _, by omega, by go_num, rfl, Hnx2, by rw [Hnx2.out]; exact hle, Lib.hid ((H8n.out _).alloc (H8n.out _).size _)⟩
            case measure => simp [intOf]; omega
          · have i9 : decide ((9 : Int) < (x.length : Int)) = true := decide_eq_true (by omega)
            have hcv1 := fun q => conv_drew w8 q (48 + x.length / 10) (48 + ((x.length : Int) / 10)) (by omega) (by omega)
            have hcv := fun o q => conv_drew2 w8 o q (48 + x.length % 10) (48 + ((x.length : Int) % 10)) (by omega) (by omega)
            have Hm : Hid (num x.length = one8 (48 + x.length / 10) ++ one8 (48 + x.length % 10)) := Lib.hid (num_two h10)
            have Hnx2 := Hnx
            rw [Hm.out] at Hnx2
            have Hnx3 : Hid (s ++ (⟨#[32]⟩ : ByteArray) ++ label x ++ (⟨#[58]⟩ : ByteArray) ++ one8 (48 + x.length / 10) ++ one8 (48 + x.length % 10) = fmT (prs xss) (m + 1)) := Lib.hid (by rw [ByteArray.append_assoc]; exact Hnx2.out)
            clear h10 Hnx2
            go_wp2_with fail
            go_roundw
            case rel => exact ⟨m + 1, _, by omega, by go_num, rfl, Hnx3, by rw [Hnx3.out]; exact hle, Lib.hid ((((H8n.out _).alloc (H8n.out _).size _)).alloc (by simp; have := (H8n.out 0).size; simp at this; omega) _)⟩
            case measure => simp [intOf]; omega
        · have hk0 : m = 0 := by omega
          subst hk0
          have hs0 : s = ⟨#[]⟩ := Hse.out
          subst hs0
          have Hnx : Hid ((⟨#[]⟩ : ByteArray) ++ label x ++ ⟨#[58]⟩ ++ num x.length = fmT (prs xss) (0 + 1)) := Lib.hid (fm_first hxp).symm
          simp only [Addr.add_zero'] at hcA
          clear hxp hm0
          go_wp2_with fail
          refine Hlab.out.mono ?_
          rintro e w8 ⟨rfl, hb8⟩
          have hcA8 : w8.cell? ad = some (.slice (some tad) x.length pc) := cell_later hb8 hcA
          have hcX8 := cell_later hb8 hcX
          have hcY8 := cell_later hb8 hcY
          have hb8' := below_trans' Hb6.out hb8
          have Hb8 := Lib.hid hb8'
          clear hb8 hb8' hcA hcX hcY
          go_wp2_with fail
          go_quiet (fail)
          have h8n : ∀ n, Below w5.heap.size w5 (w8.drewN n) := fun n => below_drewN Hb8.out n
          have H8n := Lib.hid h8n
          clear h8n
          by_cases h10 : x.length < 10
          · have i9 : decide ((9 : Int) < (x.length : Int)) = false := decide_eq_false (by omega)
            have hcv := fun q => conv_drew w8 q (48 + x.length % 10) (48 + ((x.length : Int) % 10)) (by omega) (by omega)
            have Hm : Hid (num x.length = one8 (48 + x.length % 10)) := Lib.hid (by rw [num_one h10, Nat.mod_eq_of_lt h10])
            have Hnx2 := Hnx
            rw [Hm.out] at Hnx2
            clear h10
            go_wp2_with fail
            go_roundw
            case rel => exact ⟨0 + 1, _, by omega, by go_num, rfl, Hnx2, by rw [Hnx2.out]; exact hle, Lib.hid ((H8n.out _).alloc (H8n.out _).size _)⟩
            case measure => simp [intOf]; omega
          · have i9 : decide ((9 : Int) < (x.length : Int)) = true := decide_eq_true (by omega)
            have hcv1 := fun q => conv_drew w8 q (48 + x.length / 10) (48 + ((x.length : Int) / 10)) (by omega) (by omega)
            have hcv := fun o q => conv_drew2 w8 o q (48 + x.length % 10) (48 + ((x.length : Int) % 10)) (by omega) (by omega)
            have Hm : Hid (num x.length = one8 (48 + x.length / 10) ++ one8 (48 + x.length % 10)) := Lib.hid (num_two h10)
            have Hnx2 := Hnx
            rw [Hm.out] at Hnx2
            have Hnx3 : Hid ((⟨#[]⟩ : ByteArray) ++ label x ++ (⟨#[58]⟩ : ByteArray) ++ one8 (48 + x.length / 10) ++ one8 (48 + x.length % 10) = fmT (prs xss) (0 + 1)) := Lib.hid (by rw [ByteArray.append_assoc]; exact Hnx2.out)
            clear h10 Hnx2
            go_wp2_with fail
            go_roundw
            case rel => exact ⟨0 + 1, _, by omega, by go_num, rfl, Hnx3, by rw [Hnx3.out]; exact hle, Lib.hid ((((H8n.out _).alloc (H8n.out _).size _)).alloc (by simp; have := (H8n.out 0).size; simp at this; omega) _)⟩
            case measure => simp [intOf]; omega
      · have hk' : m = us.length := by omega
        subst hk'
        by_cases h0 : us.length = 0
        · have c0 : ((us.length : Int) == 0) = true := by simp [h0]
          have t5 : (T.toList == (⟨#[45]⟩ : ByteArray).toList) = true := str_same (HT.out.trans (fmtT_nil Hyes.out (by rw [← Hul.out]; exact h0)))
          have t6 : T.toList = [45] := by rw [HT.out, fmtT_nil Hyes.out (by rw [← Hul.out]; exact h0), tl_data]
          clear h0
          go_wp2_with fail
          go_ret
          exact ⟨rfl, below_trans' Hb.out Hb6.out⟩
        · have c0 : ((us.length : Int) == 0) = false := by simp only [beq_eq_false_iff_ne]; omega
          have c1 : decide ((0 : Int) < (us.length : Int)) = true := decide_eq_true (by omega)
          have t5 : (T.toList == s.toList) = true := str_same (HT.out.trans ((fmtT_yes Hyes.out (by rw [← Hul.out]; omega)).trans (by rw [Hse.out, prs_len, Hul.out])))
          have c2 : 0 < us.length := by omega
          clear h0
          go_wp2_with fail
          go_ret
          exact ⟨rfl, below_trans' Hb.out Hb6.out⟩
end Go.Proofs.YtfhnjpjlpddpmaaDoor
