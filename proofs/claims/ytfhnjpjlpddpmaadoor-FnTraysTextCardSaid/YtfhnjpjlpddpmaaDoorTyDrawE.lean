
/- The walk of what spoils trays (l5Bad). -/
import Derived.Test.YtfhnjpjlpddpmaaDoorTyDrawD
import Derived.Test.YtfhnjpjlpddpmaaDoorTyDrawT
import Derived.Test.YtfhnjpjlpddpmaaDoorTyFill
namespace Go.Proofs.YtfhnjpjlpddpmaaDoor
open Go.RowKit
set_option linter.unusedVariables false

theorem SlRows.snoc {β : Type} {F : World → Value → β → Prop} {w : World} {us : List Value} {xss : List β} (h : SlRows F w us xss) {u : Value} {x : β} (hu : F w u x) : SlRows F w (us ++ [u]) (xss ++ [x]) := by
  refine ⟨by simp [h.len], fun i v y h1 h2 => ?_⟩
  have hl := h.len
  rcases Nat.lt_or_ge i us.length with hi | hi
  · rw [List.getElem?_append_left hi] at h1
    rw [List.getElem?_append_left (by omega)] at h2
    exact h.row i v y h1 h2
  · have := (List.getElem?_eq_some_iff.1 h1).1
    simp at this
    have e1 : i = us.length := by omega
    subst e1
    simp at h1
    rw [hl] at h2
    simp at h2
    subst h1 h2
    exact hu
/-- Trays that may share rows, all in blocks from B on. -/
abbrev RowB (B : Nat) (w : World) (u : Value) (xs : List Ltr) : Prop := w.ownsRow B 35 2 u xs.length (lcs xs)
def LtB (w : World) (B : Nat) (v : Value) (xss : List (List Ltr)) : Prop := ∃ us, w.ownsRow B 33 1 v us.length us ∧ SlRows (RowB B) w us xss
theorem LtB.lts {w : World} {B : Nat} {v : Value} {xss : List (List Ltr)} (h : LtB w B v xss) : LtS w v xss := by
  obtain ⟨us, h1, h2⟩ := h
  exact ⟨us, sl_own h1, h2.len, fun i u xs a b => sl_own (h2.row i u xs a b)⟩
theorem LtB.past {w w' : World} {B R : Nat} {v : Value} {xss : List (List Ltr)} (h : LtB w B v xss) (hR : R < B) (hg : w.grownBy w' (some R)) : LtB w' B v xss := by
  obtain ⟨us, h1, h2⟩ := h
  exact ⟨us, own_past h1 hR hg, h2.len, fun i u xs a b => own_past (h2.row i u xs a b) hR hg⟩
/-- Rows of the call's own behind a change that is none of theirs. -/
theorem rows_sl {w w' : World} {lo hi : Nat} {us : List Value} {xss : List (List Ltr)} (h : RowsL w lo hi us xss) (hk : ∀ u xs, Own w lo hi 35 2 u xs.length (lcs xs) → w'.ownsRow lo 35 2 u xs.length (lcs xs)) : SlRows (RowB lo) w' us xss :=
  ⟨h.len, fun i u xs h1 h2 => hk u xs (h.row i u xs h1 h2)⟩
theorem below_trans_row {B : Nat} {w1 wa w5 : World} {row : Option Nat} (hb : Below w1.heap.size w1 wa) (hg : wa.grownBy w5 row) (hB : B ≤ w1.heap.size) (hr : ∀ g, row = some g → B ≤ g) : Below B w1 w5 :=
  ⟨hg.os.trans hb.os, hg.tape.trans hb.tape, hg.output.trans hb.output, Nat.le_trans hb.size hg.size, fun k hk => (hg.block k (by have := hb.size; omega) (fun e => by have := hr k e.symm; omega)).trans (hb.block k (by omega))⟩
theorem dst_upto {w0 w1 w5 : World} {R q B : Nat} (hd : Dst w0 R q w1) (hb : Below B w1 w5) (hB : w0.heap.size ≤ B) (hr : Reader w5 R q) : Dst w0 R q w5 :=
  ⟨⟨hb.os.trans hd.grown.os, hb.tape.trans hd.grown.tape, hb.output.trans hd.grown.output, Nat.le_trans hd.grown.size hb.size, fun k hk hR => (hb.block k (by omega)).trans (hd.grown.block k hk hR)⟩, hr⟩

set_option maxRecDepth 100000 in
set_option maxHeartbeats 1600000 in
theorem bad5_any (R p B : Nat) (v : Value) (xss : List (List Ltr)) (w : World) (h : Reader w R p) (hR : R < B) (hB : B ≤ w.heap.size) (ho : OLL w B w.heap.size v xss) (hl : xss.length ≤ 1000) (hs : ∀ xs ∈ xss, xs.length ≤ 60 ∧ ∀ x ∈ xs, x.2.size = 7) (hp : p ≤ 68719476736) :
    Calls Tryd.prog 38 #[.pointer (some ⟨R, 0, none⟩), v] w fun e w' => ∃ (u : Value) (yss : List (List Ltr)) (q : Nat), e = .returned u ∧ LtB w' B u yss ∧ yss.length ≤ 1001 ∧ (∀ ys ∈ yss, ys.length ≤ 61 ∧ ∀ y ∈ ys, y.2.size ≤ 101) ∧ q ≤ p + 20 ∧ Reader w' R q ∧ (∀ w0, Dst w0 R p w → w0.heap.size ≤ B → Dst w0 R q w') := by
  obtain ⟨us, ho, hr⟩ := ho
  have Hul := Lib.hid hr.len
  have hul2 : us.length ≤ 1000 := by rw [Hul.out]; exact hl
  obtain ⟨A, c, hv, hnc, hcm, hA, hA2⟩ := own_form ho.row
  subst hv
  have Hr0 := Lib.hid hr
  have Ho0 := Lib.hid ho
  have Hs : Hid (∀ ys ∈ xss, ys.length ≤ 61 ∧ ∀ y ∈ ys, y.2.size ≤ 101) := Lib.hid fun ys hy => ⟨by have := (hs ys hy).1; omega, fun y hm => by have := (hs ys hy).2 y hm; omega⟩
  have Hs7 := Lib.hid hs
  have h1 := pick_any R p 30 w h (by omega) (by omega)
  have H1 := Lib.hid h1
  clear h1 hs hA hA2 hcm hr ho
  go_enter Tryd.func38, Tryd.ntmps38
  go_wp2_with fail
  refine H1.out.mono ?_
  rintro e w1 ⟨a, rfl, ha, hr1, hg1⟩
  obtain ⟨m, rfl, hm⟩ := nat_of (ha.pos (by omega))
  have Hr1 := Lib.hid hr1
  have Hg1 := Lib.hid hg1
  have Ho1 := Lib.hid (own_past Ho0.out.row hR hg1)
  have Hrow1 : Hid (∀ u xs, Own w B w.heap.size 35 2 u xs.length (lcs xs) → w1.ownsRow B 35 2 u xs.length (lcs xs)) := Lib.hid fun u xs ho => own_past ho.row hR hg1
  have Hw1 := Lib.hid (Nat.le_trans hB hg1.size)
  clear ha hr1 hg1 H1 h
  by_cases h0 : m = 0
  · subst h0
    obtain ⟨wa, hwa⟩ : ∃ wa, wa = (w1.alloc (.cells #[] 35)).alloc (.cells #[.slice (some ⟨w1.heap.size, 0, none⟩) 0 0] 33) := ⟨_, rfl⟩
    have hb : Below w1.heap.size w1 wa := by rw [hwa]; exact ((Below.refl _ _).alloc (Nat.le_refl _) _).alloc (by rw [World.size_alloc]; omega) _
    have hoa := own_below Ho1.out hb
    have hnw : Rd wa (some ⟨w1.heap.size + 1, 0, none⟩) [.slice (some ⟨w1.heap.size, 0, none⟩) 0 0] := by
      rw [hwa]
      have := rd_new (w1.alloc (.cells #[] 35)) [.slice (some ⟨w1.heap.size, 0, none⟩) 0 0] 33
      rwa [World.size_alloc] at this
    have Hoa := Lib.hid hoa
    have Hb := Lib.hid hb
    have Hnw := Lib.hid hnw
    have Hwa : Hid (B ≤ wa.heap.size) := Lib.hid (Nat.le_trans Hw1.out hb.size)
    clear hoa hb hnw
    go_wp2_with (at_builtin; simp only [← hwa]; refine wpList_append_rd rfl (.tmp 9) (.tmp 11) 25 rfl trays_elem (base := B) (.slice A us.length c) us.length us rfl Hoa.out (some ⟨w1.heap.size + 1, 0, none⟩) 1 1 [.slice (some ⟨w1.heap.size, 0, none⟩) 0 0] rfl rfl Hnw.out (by intro u hu; simp at hu; subst hu; rfl) (by unfold maxLen; omega) (by omega) Hwa.out ?_; intro v5 w5 hown5 hg5 hm5)
    have Hx := Lib.hid (And.intro hown5 hg5)
    clear hown5 hg5 hm5
    go_ret
    have hrs : SlRows (RowB B) w5 us xss := rows_sl Hr0.out fun u xs ho => (own_below (Hrow1.out u xs ho) Hb.out).kept Hx.out.2 (apart_row (own_apart_type (own_below (Hrow1.out u xs ho) Hb.out) Hoa.out ne_types))
    have hemp : wa.ownsRow B 35 2 (.slice (some ⟨w1.heap.size, 0, none⟩) 0 0) ([] : List Ltr).length (lcs []) := by
      rw [hwa]
      exact own_below (own_base (World.ownsRow_lit w1 #[] 0 (Nat.le_refl _) (Nat.zero_le _) rfl) Hw1.out) ((Below.refl _ _).alloc (Nat.le_refl _) _)
    have hu5 : us.length + 1 = (us ++ [Value.slice (some ⟨w1.heap.size, 0, none⟩) 0 0]).length := by simp
    have hb5 : Below B w1 w5 := below_trans_row Hb.out Hx.out.2 Hw1.out (fun g e => (Hoa.out.lt g e).1)
    refine ⟨_, xss ++ [[]], p + 1, rfl, ⟨us ++ [.slice (some ⟨w1.heap.size, 0, none⟩) 0 0], by have := Hx.out.1; rwa [hu5] at this, hrs.snoc (hemp.kept Hx.out.2 (apart_row (own_apart_type hemp Hoa.out ne_types)))⟩, by simp; omega, ?_, by omega, Hr1.out.upto hb5 hR, fun w0 hd hw0 => dst_upto (hd.step Hg1.out Hr1.out) hb5 (by omega) (Hr1.out.upto hb5 hR)⟩
    intro ys hy
    rcases List.mem_append.1 hy with h | h
    · exact Hs.out ys h
    · simp at h; subst h; exact ⟨by simp, by simp⟩
  have e0 : ((m : Int) == 0) = false := by simp only [beq_eq_false_iff_ne]; omega
  have hs1 : Hid (SlRows (RowB B) w1 us xss) := Lib.hid (rows_sl Hr0.out Hrow1.out)
  have Hend : Hid (LtB w1 B (.slice A us.length c) xss ∧ xss.length ≤ 1001 ∧ (∀ ys ∈ xss, ys.length ≤ 61 ∧ ∀ y ∈ ys, y.2.size ≤ 101) ∧ p + 1 ≤ p + 20 ∧ Reader w1 R (p + 1) ∧ (∀ w0, Dst w0 R p w → w0.heap.size ≤ B → Dst w0 R (p + 1) w1)) := Lib.hid ⟨⟨us, Ho1.out, hs1.out⟩, by omega, Hs.out, by omega, Hr1.out, fun w0 hd _ => hd.step Hg1.out Hr1.out⟩
  by_cases hu0 : us.length = 0
  · have hgt : ¬ 0 < (us.length : Int) := by omega
    clear hu0
    by_cases h1 : m = 1
    · subst h1
      go_wp2_with fail
      go_ret
      exact ⟨_, xss, p + 1, rfl, Hend.out⟩
    have e1 : ((m : Int) == 1) = false := by simp only [beq_eq_false_iff_ne]; omega
    by_cases h2 : m = 2
    · subst h2
      go_wp2_with fail
      go_ret
      exact ⟨_, xss, p + 1, rfl, Hend.out⟩
    have e2 : ((m : Int) == 2) = false := by simp only [beq_eq_false_iff_ne]; omega
    go_wp2_with fail
    go_ret
    exact ⟨_, xss, p + 1, rfl, Hend.out⟩
  have hgt : 0 < (us.length : Int) := by omega
  obtain ⟨u0, hu⟩ : ∃ u0, us[0]? = some u0 := ⟨_, List.getElem?_eq_getElem (by omega)⟩
  obtain ⟨x0, hx0⟩ : ∃ x0, xss[0]? = some x0 := ⟨_, List.getElem?_eq_getElem (by have := Hul.out; omega)⟩
  obtain ⟨g, rfl⟩ := own_some' Ho1.out (by omega)
  have hcA : w1.cell? ⟨g, 0, none⟩ = some u0 := (Ho1.out.cellAt _ (by omega)).trans hu
  have hor := Hrow1.out u0 x0 (Hr0.out.row 0 u0 x0 hu hx0)
  have Hu := Lib.hid hu
  have Hx0 := Lib.hid hx0
  have Hor := Lib.hid hor
  obtain ⟨A0, c0, rfl⟩ := own_shape hor
  clear hu hx0 hor
  by_cases h1 : m = 1
  · subst h1
    obtain ⟨wa, hwa⟩ : ∃ wa, wa = w1.alloc (.cells #[.slice A0 x0.length c0] 33) := ⟨_, rfl⟩
    have hb : Below w1.heap.size w1 wa := by rw [hwa]; exact (Below.refl _ _).alloc (Nat.le_refl _) _
    have hoa := own_below Ho1.out hb
    have hnw : Rd wa (some ⟨w1.heap.size, 0, none⟩) [.slice A0 x0.length c0] := by rw [hwa]; exact rd_new w1 [.slice A0 x0.length c0] 33
    have Hoa := Lib.hid hoa
    have Hb := Lib.hid hb
    have Hnw := Lib.hid hnw
    have Hwa : Hid (B ≤ wa.heap.size) := Lib.hid (Nat.le_trans Hw1.out hb.size)
    clear hoa hb hnw
    go_wp2_with (at_builtin; simp only [← hwa]; refine wpList_append_rd rfl (.tmp 18) (.tmp 22) 25 rfl trays_elem (base := B) (.slice (some ⟨g, 0, none⟩) us.length c) us.length us rfl Hoa.out (some ⟨w1.heap.size, 0, none⟩) 1 1 [.slice A0 x0.length c0] rfl rfl Hnw.out (by intro u hu; simp at hu; subst hu; rfl) (by unfold maxLen; omega) (by omega) Hwa.out ?_; intro v5 w5 hown5 hg5 hm5)
    have Hx := Lib.hid (And.intro hown5 hg5)
    clear hown5 hg5 hm5
    go_ret
    have hkeep : ∀ u xs, w1.ownsRow B 35 2 u xs.length (lcs xs) → w5.ownsRow B 35 2 u xs.length (lcs xs) := fun u xs ho => (own_below ho Hb.out).kept Hx.out.2 (apart_row (own_apart_type (own_below ho Hb.out) Hoa.out ne_types))
    have hrs : SlRows (RowB B) w5 us xss := rows_sl Hr0.out fun u xs ho => hkeep u xs (Hrow1.out u xs ho)
    have hu5 : us.length + 1 = (us ++ [Value.slice A0 x0.length c0]).length := by simp
    have hb5 : Below B w1 w5 := below_trans_row Hb.out Hx.out.2 Hw1.out (fun g e => (Hoa.out.lt g e).1)
    refine ⟨_, xss ++ [x0], p + 1, rfl, ⟨us ++ [.slice A0 x0.length c0], by have := Hx.out.1; rwa [hu5] at this, hrs.snoc (hkeep _ _ Hor.out)⟩, by simp; omega, ?_, by omega, Hr1.out.upto hb5 hR, fun w0 hd hw0 => dst_upto (hd.step Hg1.out Hr1.out) hb5 (by omega) (Hr1.out.upto hb5 hR)⟩
    intro ys hy
    rcases List.mem_append.1 hy with h | h
    · exact Hs.out ys h
    · simp at h; subst h; exact Hs.out _ (List.mem_of_getElem? Hx0.out)
  have e1 : ((m : Int) == 1) = false := by simp only [beq_eq_false_iff_ne]; omega
  by_cases h2 : m = 2
  · subst h2
    have hx0s := Hs7.out x0 (List.mem_of_getElem? Hx0.out)
    have hb2 := bad2_any R (p + 1) B (.slice A0 x0.length c0) x0 w1 Hr1.out hR Hw1.out Hor.out hx0s.1 hx0s.2 (by omega)
    have Hb2 := Lib.hid hb2
    clear hb2 hx0s
    go_wp2_with fail
    refine Hb2.out.mono ?_
    rintro e w3 ⟨u, ys, q, rfl, ho3, hyl, hys, hq, hr3, hc3⟩
    have hou : w3.ownsRow B 33 1 (.slice (some ⟨g, 0, none⟩) us.length c) us.length us := hc3.own Ho1.out hR fun g1 e1 => fun e2 => (own_apart_type Ho1.out Hor.out ne_types.symm g1 e1) e2.symm
    have hcA3 : w3.cell? ⟨g, 0, none⟩ = some (.slice A0 x0.length c0) := (hou.cellAt _ (by omega)).trans Hu.out
    have hfz3 : w3.frozen? ⟨g, 0, none⟩ = false := hou.frozenAt _
    have hst := hou.stored 0 u
    obtain ⟨C, cp, rfl⟩ := own_shape ho3
    have Hst := Lib.hid hst
    have Hq := Lib.hid (And.intro hyl (And.intro hys hq))
    have H3 := Lib.hid (And.intro ho3 (And.intro hr3 hc3))
    have Hou := Lib.hid hou
    clear hst ho3 hr3 hc3 hyl hys hq hou hcA
    go_wp2_with fail
    go_ret
    obtain ⟨hyl, hys, hq⟩ := Hq.out
    obtain ⟨ho3, hr3, hc3⟩ := H3.out
    have hg4 : w3.grownBy (w3.setCell ⟨g, 0, none⟩ (.slice C ys.length cp)) (Value.slice (some ⟨g, 0, none⟩) us.length c).ownBlock := by simpa [Value.ownBlock] using Hst.out.2
    have hgB := (Ho1.out.lt g rfl).1
    have hb4 : Below B w3 (w3.setCell ⟨g, 0, none⟩ (.slice C ys.length cp)) := ⟨hg4.os, hg4.tape, hg4.output, hg4.size, fun j hj => hg4.block j (by have := hc3.size; have := Hw1.out; omega) (fun e => by simp [Value.ownBlock] at e; omega)⟩
    have hr4 := hr3.upto hb4 hR
    have hlen : us.length = (us.set 0 (.slice C ys.length cp)).length := by simp
    refine ⟨_, xss.set 0 ys, q, rfl, ⟨us.set 0 (.slice C ys.length cp), by rw [← hlen]; exact Hst.out.1, ?_⟩, by simp; omega, ?_, by omega, hr4, fun w0 hd hw0 => ?_⟩
    · refine ⟨by simp [Hr0.out.len], fun i z zs h1 h2 => ?_⟩
      by_cases hi : i = 0
      · subst hi
        rw [List.getElem?_set_self (by have := Hul.out; omega)] at h1
        rw [List.getElem?_set_self (by have := Hul.out; omega)] at h2
        injection h1 with h1
        injection h2 with h2
        subst h1 h2
        exact ho3.kept hg4 (apart_row (own_apart_type ho3 Hou.out ne_types))
      · rw [List.getElem?_set_ne (fun e => hi e.symm)] at h1 h2
        have hz := Hrow1.out z zs (Hr0.out.row i z zs h1 h2)
        have hz3 := hc3.own hz hR fun g1 e1 e2 => (Hr0.out.apart 0 i _ z (by omega) Hu.out h1) g1 e2.symm e1
        exact hz3.kept hg4 (apart_row (own_apart_type hz3 Hou.out ne_types))
    · intro zs hz
      rcases List.mem_or_eq_of_mem_set hz with h | h
      · exact Hs.out zs h
      · subst h; exact ⟨hyl, hys⟩
    · exact dst_upto (hc3.dst (hd.step Hg1.out Hr1.out) (fun g e => by have := (Hor.out.lt g e).1; omega) hr3) hb4 (by omega) hr4
  have e2 : ((m : Int) == 2) = false := by simp only [beq_eq_false_iff_ne]; omega
  go_wp2_with fail
  go_ret
  exact ⟨_, xss, p + 1, rfl, Hend.out⟩

end Go.Proofs.YtfhnjpjlpddpmaaDoor
