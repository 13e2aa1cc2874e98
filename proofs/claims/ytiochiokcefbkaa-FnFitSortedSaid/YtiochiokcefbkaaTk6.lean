/- The walks of the search for the least number of trucks. -/
import Derived.Test.YtiochiokcefbkaaTk3
import Derived.Test.YtiochiokcefbkaaTkCanMath
namespace Go.Proofs.Ytiochiokcefbkaa
open Go.RowKit
set_option linter.unusedVariables false

set_option maxHeartbeats 1000000 in
theorem impl_can (cap : Int) (hc1 : 1 ≤ cap) (hc2 : cap ≤ 1000) : ∀ (ws : List Int) (A : Option Addr) (c : Nat) (C : Option Addr) (d B : Nat) (ld : List Int) (w : World), (∀ x ∈ ws, 1 ≤ x ∧ x ≤ cap) → ws.length ≤ 8 → ws.length ≤ c →
    (∀ y ∈ ld, 0 ≤ y ∧ y ≤ cap) → ld.length ≤ 8 → Rd w A (ints ws) → w.ownsRow B 3 1 (.slice C ld.length d) ld.length (ints ld) → (∀ ad, A = some ad → ws ≠ [] → (Value.slice C ld.length d).ownBlock ≠ some ad.block) →
    Calls Try.prog 42 #[.slice A ws.length c, .int .i64 cap, .slice C ld.length d] w fun e w' => e = .returned (.bool (can cap ws ld)) ∧ w'.ownsRow B 3 1 (.slice C ld.length d) ld.length (ints ld) ∧ w.grownBy w' (Value.slice C ld.length d).ownBlock := by
  intro ws
  induction ws with
  | nil =>
    intro A c C d B ld w _ _ _ _ _ _ hown _
    go_enter Try.func42, Try.ntmps42
    go_wp2_with fail
    go_ret
    exact ⟨rfl, hown, World.grownBy.refl _ _⟩
  | cons x ws ih =>
    intro A c C d B ld w hw hl8 hlc hld hld8 hA hown hne
    have hx := hw x (by simp)
    have Hw : Hid (∀ x ∈ ws, 1 ≤ x ∧ x ≤ cap) := Lib.hid fun y hy => hw y (by simp [hy])
    have Ih := Lib.hid ih
    have Hld := Lib.hid hld
    have hne1 := fun ad (e : A = some ad) => hne ad e (by simp)
    have Hne := Lib.hid hne1
    have hl8' : ws.length + 1 ≤ 8 := by simpa using hl8
    have hlc' : ws.length + 1 ≤ c := by simpa using hlc
    have Hl : Hid ((x :: ws).length = ws.length + 1) := Lib.hid rfl
    clear hw ih hld hne hne1 hl8 hlc
    rw [show ((x :: ws).length) = ws.length + 1 from rfl]
    obtain ⟨ad0, z, rfl, hz, hc0⟩ := hA.int (k := 0) (by simp)
    simp at hz
    subst hz
    have HA := Lib.hid hA
    have Hown := Lib.hid hown
    have hz0 : (((ws.length : Nat) : Int) + 1 == 0) = false := by simp; omega
    clear hA hown
    go_enter Try.func42, Try.ntmps42
    go_wp2_with fail
    go_loopw [15] (fun i wr => ∃ k : Nat, k ≤ ld.length ∧ i = .int .i64 k ∧ Hid (wr.ownsRow B 3 1 (.slice C ld.length d) ld.length (ints ld) ∧ w.grownBy wr (Value.slice C ld.length d).ownBlock ∧
      can cap (x :: ws) ld = canFrom (can cap ws) cap x ld (ld.length - k) k)) (fun iv _ => ld.length - (intOf iv).toNat)
    case atStart => exact ⟨0, Nat.zero_le _, rfl, Lib.hid ⟨Hown.out, World.grownBy.refl _ _, can_start _ _ _ _⟩⟩
    case round =>
      obtain ⟨k, hk, rfl, hrow⟩ := hrel
      by_cases hlt : k < ld.length
      · obtain ⟨hown, hgr, hcan⟩ := hrow.out
        clear hrow
        obtain ⟨g, rfl⟩ : ∃ g, C = some ⟨g, 0, none⟩ := by
          rcases hown.2 with ⟨hv, hz⟩ | ⟨g, cap, cur, hv, _⟩
          · omega
          · injection hv with hv; exact ⟨g, hv⟩
        obtain ⟨l, hlk⟩ : ∃ l, ld[k]? = some l := ⟨_, List.getElem?_eq_getElem hlt⟩
        have hlb := Hld.out l (List.mem_of_getElem? hlk)
        have hc1' : wr.cell? ⟨g, k, none⟩ = some (.int .i64 l) := (hown.cellAt k (by omega)).trans (ints_get hlk)
        have hfz : wr.frozen? ⟨g, k, none⟩ = false := hown.frozenAt k
        have hA2 := HA.out.grown hgr (fun ad e => fun e2 => Hne.out ad e e2.symm)
        obtain ⟨ad1, z, e1, hz, hc0'⟩ := hA2.int (k := 0) (by simp)
        injection e1 with e1
        subst e1
        simp at hz
        subst hz
        simp only [Addr.add_zero'] at hc0 hc0'
        have Hlk := Lib.hid hlk
        have Hgr := Lib.hid hgr
        have Hcan := Lib.hid hcan
        have HA2 := Lib.hid hA2
        have Hst := Lib.hid (hown.stored k (.int .i64 (l + x)))
        have Hwn := Lib.hid hown
        clear hlk hgr hcan hA2 hc0 hown
        by_cases hle : l + x ≤ cap
        · have hst := Hst.out
          rw [ints_set] at hst
          have hrd : Rd (wr.setCell ⟨g, k, none⟩ (.int .i64 (l + x))) (some ad0) (ints (x :: ws)) := HA2.out.grown hst.2 (fun ad e => fun e2 => Hne.out ad e e2.symm)
          have hrec : Calls Try.prog 42 #[.slice (if c = 1 then some ad0 else some { block := ad0.block, off := ad0.off + 1 }) ws.length (c - 1), .int .i64 cap, .slice (some ⟨g, 0, none⟩) ld.length d] (wr.setCell ⟨g, k, none⟩ (.int .i64 (l + x)))
              fun e w' => e = .returned (.bool (can cap ws (ld.set k (l + x)))) ∧ w'.ownsRow B 3 1 (.slice (some ⟨g, 0, none⟩) ld.length d) ld.length (ints (ld.set k (l + x))) ∧ (wr.setCell ⟨g, k, none⟩ (.int .i64 (l + x))).grownBy w' (some g) := by
            have h1 := Ih.out (if c = 1 then some ad0 else some { block := ad0.block, off := ad0.off + 1 }) (c - 1) (some ⟨g, 0, none⟩) d B (ld.set k (l + x)) (wr.setCell ⟨g, k, none⟩ (.int .i64 (l + x))) Hw.out (by omega) (by omega)
              (set_bd Hld.out (by omega)) (by simpa using hld8) (by
                by_cases hc : c = 1
                · have : ws = [] := List.eq_nil_of_length_eq_zero (by omega)
                  subst this
                  exact Rd.nil _ _
                · rw [if_neg hc]; exact hrd.tail1) (by simpa using hst.1) (by
                intro ad e _
                have : ad.block = ad0.block := by
                  by_cases hc : c = 1
                  · rw [if_pos hc] at e; injection e with e; rw [e]
                  · rw [if_neg hc] at e; injection e with e; rw [← e]
                rw [this]
                simpa [Value.ownBlock] using Hne.out ad0 rfl)
            simpa [Value.ownBlock] using h1
          have Hrec := Lib.hid hrec
          have hgr1 : w.grownBy (wr.setCell ⟨g, k, none⟩ (.int .i64 (l + x))) (some g) := Hgr.out.trans hst.2
          have Hgr1 := Lib.hid hgr1
          clear hst hrd hrec hgr1
          have fin : ∀ w2 : World, w2.ownsRow B 3 1 (.slice (some ⟨g, 0, none⟩) ld.length d) ld.length (ints (ld.set k (l + x))) → (wr.setCell ⟨g, k, none⟩ (.int .i64 (l + x))).grownBy w2 (some g) →
              (w2.setCell ⟨g, k, none⟩ (.int .i64 l)).ownsRow B 3 1 (.slice (some ⟨g, 0, none⟩) ld.length d) ld.length (ints ld) ∧ w.grownBy (w2.setCell ⟨g, k, none⟩ (.int .i64 l)) (some g) ∧ w2.cell? ⟨g, k, none⟩ = some (.int .i64 (l + x)) ∧ w2.frozen? ⟨g, k, none⟩ = false := by
            intro w2 h1 h2
            have h3 := h1.stored k (.int .i64 l)
            rw [ints_set, set_back Hlk.out] at h3
            exact ⟨h3.1, Hgr1.out.trans (h2.trans h3.2), (h1.cellAt k (by omega)).trans (ints_get (by rw [List.getElem?_set_self hlt])), h1.frozenAt k⟩
          have Fin := Lib.hid fin
          clear fin
          by_cases hc : c = 1
          · rw [if_pos hc] at Hrec
            have e0 : c - 1 = 0 := by omega
            rw [e0] at Hrec
            clear hl8' hlc' e0
            go_wp2_with fail
            clear hc
            refine (Hrec.out).mono ?_
            rintro e w2 ⟨rfl, ho2, hg2⟩
            obtain ⟨f1, f2, f3, f4⟩ := Fin.out w2 ho2 hg2
            have F1 := Lib.hid f1
            have F2 := Lib.hid f2
            clear ho2 hg2 f1 f2
            cases hcn : can cap ws (ld.set k (l + x))
            · have Hcn := Lib.hid hcn
              by_cases h0 : l = 0
              · have h0' : (l == 0) = true := by simp [h0]
                have H00 := Lib.hid h0
                clear h0
                go_wp2_with fail
                go_ret
                exact ⟨ret_bool (by rw [Hcan.out, canFrom_zero Hlk.out (by rw [Hcn.out]; simp) H00.out]), F1.out, F2.out⟩
              · have h0' : (l == 0) = false := by simp [h0]
                go_wp2_with fail
                go_roundw
                case rel => exact ⟨k + 1, by omega, by go_num, Lib.hid ⟨F1.out, F2.out, by rw [Hcan.out, canFrom_next Hlk.out (by rw [Hcn.out]; simp) h0]⟩⟩
                case measure => simp [intOf]; omega
            · have Hcn := Lib.hid hcn
              go_wp2_with fail
              go_ret
              exact ⟨ret_bool (by rw [Hcan.out, canFrom_yes Hlk.out hle Hcn.out]), F1.out, F2.out⟩
          · rw [if_neg hc] at Hrec
            go_wp2_with fail
            refine (Hrec.out).mono ?_
            rintro e w2 ⟨rfl, ho2, hg2⟩
            obtain ⟨f1, f2, f3, f4⟩ := Fin.out w2 ho2 hg2
            have F1 := Lib.hid f1
            have F2 := Lib.hid f2
            clear ho2 hg2 f1 f2
            cases hcn : can cap ws (ld.set k (l + x))
            · have Hcn := Lib.hid hcn
              by_cases h0 : l = 0
              · have h0' : (l == 0) = true := by simp [h0]
                have H00 := Lib.hid h0
                clear h0
                go_wp2_with fail
                go_ret
                exact ⟨ret_bool (by rw [Hcan.out, canFrom_zero Hlk.out (by rw [Hcn.out]; simp) H00.out]), F1.out, F2.out⟩
              · have h0' : (l == 0) = false := by simp [h0]
                go_wp2_with fail
                go_roundw
                case rel => exact ⟨k + 1, by omega, by go_num, Lib.hid ⟨F1.out, F2.out, by rw [Hcan.out, canFrom_next Hlk.out (by rw [Hcn.out]; simp) h0]⟩⟩
                case measure => simp [intOf]; omega
            · have Hcn := Lib.hid hcn
              go_wp2_with fail
              go_ret
              exact ⟨ret_bool (by rw [Hcan.out, canFrom_yes Hlk.out hle Hcn.out]), F1.out, F2.out⟩
        · by_cases h0 : l = 0
          · exact absurd hle (by omega)
          · have h0' : (l == 0) = false := by simp [h0]
            go_wp2_with fail
            go_roundw
            case rel => exact ⟨k + 1, by omega, by go_num, Lib.hid ⟨Hwn.out, Hgr.out, by rw [Hcan.out, canFrom_next Hlk.out (by omega) h0]⟩⟩
            case measure => simp [intOf]; omega
      · have hk' : k = ld.length := by omega
        subst hk'
        obtain ⟨hown, hgr, hcan⟩ := hrow.out
        have Hown2 := Lib.hid hown
        have Hgr := Lib.hid hgr
        have Hcan := Lib.hid hcan
        clear hrow hown hgr hcan
        go_wp2_with fail
        go_ret
        exact ⟨ret_bool (by rw [Hcan.out, canFrom_end _ _ _ _ _ (Nat.le_refl _)]), Hown2.out, Hgr.out⟩

theorem drop_cons' {ws : List Int} {i : Nat} {x : Int} (h : ws[i]? = some x) : ws.drop i = x :: ws.drop (i + 1) := by
  obtain ⟨hi, rfl⟩ := List.getElem?_eq_some_iff.1 h
  exact List.drop_eq_getElem_cons hi

set_option maxHeartbeats 1000000 in
theorem spec_can (cap : Int) (hc1 : 1 ≤ cap) (hc2 : cap ≤ 1000) (ws : List Int) (A : Option Addr) (c : Nat) (C : Option Addr) (d B : Nat) (hw : ∀ x ∈ ws, 1 ≤ x ∧ x ≤ cap) (hl8 : ws.length ≤ 8) : ∀ (m i : Nat) (ld : List Int) (w : World), i + m = ws.length →
    (∀ y ∈ ld, 0 ≤ y ∧ y ≤ cap) → ld.length ≤ 8 → Rd w A (ints ws) → w.ownsRow B 3 1 (.slice C ld.length d) ld.length (ints ld) → (∀ ad, A = some ad → ws ≠ [] → C.map (·.block) ≠ some ad.block) →
    Calls Try.prog 41 #[.slice A ws.length c, .int .i64 cap, .int .i64 i, .slice C ld.length d] w fun e w' => e = .returned (.bool (can cap (ws.drop i) ld)) ∧ w'.ownsRow B 3 1 (.slice C ld.length d) ld.length (ints ld) ∧ w.grownBy w' (C.map (·.block)) := by
  intro m
  induction m with
  | zero =>
    intro i ld w him _ _ _ hown _
    have hi : i = ws.length := by omega
    subst hi
    clear him
    go_enter Try.func41, Try.ntmps41
    go_wp2_with fail
    go_ret
    exact ⟨ret_bool (by rw [List.drop_length]; rfl), hown, World.grownBy.refl _ _⟩
  | succ m ih =>
    intro i ld w him hld hld8 hA hown hne
    have hil : i < ws.length := by omega
    obtain ⟨x, hxi⟩ : ∃ x, ws[i]? = some x := ⟨_, List.getElem?_eq_getElem hil⟩
    have hx := hw x (List.mem_of_getElem? hxi)
    have Hdrop := Lib.hid (drop_cons' hxi)
    have Hxi := Lib.hid hxi
    have Ih := Lib.hid ih
    have Hld := Lib.hid hld
    have hne0 := Lib.hid hne
    have hne1 := fun ad (e : A = some ad) => hne ad e (by rintro rfl; simp at hil)
    have Hne := Lib.hid hne1
    have HA := Lib.hid hA
    have Hown := Lib.hid hown
    have Hm : Hid (i + 1 + m = ws.length) := Lib.hid (by omega)
    have hz0 : ((i : Int) == (ws.length : Int)) = false := by simp; omega
    clear hxi ih hld hne hne1 hA hown him hw
    go_enter Try.func41, Try.ntmps41
    go_wp2_with fail
    go_loopw [9] (fun iv wr => ∃ k : Nat, k ≤ ld.length ∧ iv = .int .i64 k ∧ Hid (wr.ownsRow B 3 1 (.slice C ld.length d) ld.length (ints ld) ∧ w.grownBy wr (C.map (·.block)) ∧
      can cap (x :: ws.drop (i + 1)) ld = canFrom (can cap (ws.drop (i + 1))) cap x ld (ld.length - k) k)) (fun iv _ => ld.length - (intOf iv).toNat)
    case atStart => exact ⟨0, Nat.zero_le _, rfl, Lib.hid ⟨Hown.out, World.grownBy.refl _ _, can_start _ _ _ _⟩⟩
    case round =>
      obtain ⟨k, hk, rfl, hrow⟩ := hrel
      by_cases hlt : k < ld.length
      · obtain ⟨hown, hgr, hcan⟩ := hrow.out
        clear hrow
        obtain ⟨g, rfl⟩ : ∃ g, C = some ⟨g, 0, none⟩ := by
          rcases hown.2 with ⟨hv, hz⟩ | ⟨g, cap, cur, hv, _⟩
          · omega
          · injection hv with hv; exact ⟨g, hv⟩
        obtain ⟨l, hlk⟩ : ∃ l, ld[k]? = some l := ⟨_, List.getElem?_eq_getElem hlt⟩
        have hlb := Hld.out l (List.mem_of_getElem? hlk)
        have hA2 := HA.out.grown hgr (fun ad e => fun e2 => Hne.out ad e e2.symm)
        obtain ⟨ad0, z, rfl, hz, hc0⟩ := hA2.int hil
        rw [Hxi.out] at hz
        injection hz with hz
        subst hz
        have hc1' : wr.cell? ⟨g, k, none⟩ = some (.int .i64 l) := (hown.cellAt k (by omega)).trans (ints_get hlk)
        have hfz : wr.frozen? ⟨g, k, none⟩ = false := hown.frozenAt k
        have Hlk := Lib.hid hlk
        have Hcan := Lib.hid hcan
        have Hgr := Lib.hid hgr
        have HA2 := Lib.hid hA2
        have Hwn := Lib.hid hown
        clear hlk hcan hgr hA2 hown
        by_cases hle : l + x ≤ cap
        · go_wp2_with fail
          go_quiet (fail)
          go_wp2_with fail
          obtain ⟨wq, hwq⟩ : ∃ wq, wq = wr.drewN nq := ⟨_, rfl⟩
          have hh : wq.heap = wr.heap := by rw [hwq]; rfl
          have hgq : w.grownBy wq (some g) := by
            have := Hgr.out
            rw [hwq]; exact ⟨this.os, this.tape, this.output, this.size, this.block⟩
          rw [← hwq]
          have q1 := (cell_heap hh _).trans hc1'
          have q2 := (frozen_heap hh _).trans hfz
          have q3 := (cell_heap hh _).trans hc0
          have ho := own_heap hh Hwn.out
          have hst := ho.stored k (.int .i64 (l + x))
          rw [ints_set] at hst
          have HAq := HA.out.grown hgq (fun ad e => fun e2 => Hne.out ad e e2.symm)
          have hAs : Rd (wq.setCell ⟨g, k, none⟩ (.int .i64 (l + x))).drew (some ad0) (ints ws) := HAq.grown (grown_drew hst.2) (fun ad e => fun e2 => Hne.out ad e e2.symm)
          have hrec : Calls Try.prog 41 #[.slice (some ad0) ws.length c, .int .i64 cap, .int .i64 ((i + 1 : Nat) : Int), .slice (some ⟨g, 0, none⟩) ld.length d] (wq.setCell ⟨g, k, none⟩ (.int .i64 (l + x))).drew
              fun e w' => e = .returned (.bool (can cap (ws.drop (i + 1)) (ld.set k (l + x)))) ∧ w'.ownsRow B 3 1 (.slice (some ⟨g, 0, none⟩) ld.length d) ld.length (ints (ld.set k (l + x))) ∧ (wq.setCell ⟨g, k, none⟩ (.int .i64 (l + x))).drew.grownBy w' (some g) := by
            have h1 := Ih.out (i + 1) (ld.set k (l + x)) (wq.setCell ⟨g, k, none⟩ (.int .i64 (l + x))).drew Hm.out (set_bd Hld.out (by omega)) (by simpa using hld8) hAs (by simpa using hst.1.drew) hne0.out
            simpa using h1
          rw [show (((i + 1 : Nat)) : Int) = (i : Int) + 1 from by omega] at hrec
          have Hrec := Lib.hid hrec
          have hgr1 : w.grownBy (wq.setCell ⟨g, k, none⟩ (.int .i64 (l + x))).drew (some g) := by
            have := hgq.trans hst.2
            exact ⟨this.os, this.tape, this.output, this.size, this.block⟩
          have Hgr1 := Lib.hid hgr1
          have fin : ∀ w2 : World, w2.ownsRow B 3 1 (.slice (some ⟨g, 0, none⟩) ld.length d) ld.length (ints (ld.set k (l + x))) → (wq.setCell ⟨g, k, none⟩ (.int .i64 (l + x))).drew.grownBy w2 (some g) →
              (w2.setCell ⟨g, k, none⟩ (.int .i64 l)).ownsRow B 3 1 (.slice (some ⟨g, 0, none⟩) ld.length d) ld.length (ints ld) ∧ w.grownBy (w2.setCell ⟨g, k, none⟩ (.int .i64 l)) (some g) ∧ w2.cell? ⟨g, k, none⟩ = some (.int .i64 (l + x)) ∧ w2.frozen? ⟨g, k, none⟩ = false ∧
              w2.cell? (ad0.add i) = some (.int .i64 x) := by
            intro w2 h1 h2
            have h3 := h1.stored k (.int .i64 l)
            rw [ints_set, set_back Hlk.out] at h3
            refine ⟨h3.1, Hgr1.out.trans (h2.trans h3.2), (h1.cellAt k (by omega)).trans (ints_get (by rw [List.getElem?_set_self hlt])), h1.frozenAt k, ?_⟩
            obtain ⟨ad, e, hc⟩ := (hAs.grown h2 (fun ad e => fun e2 => Hne.out ad e e2.symm)) i _ (ints_get Hxi.out)
            injection e with e
            subst e
            exact hc
          have Fin := Lib.hid fin
          clear fin hwq hh hgq ho hst HAq hAs hrec hgr1 hc1' hfz hc0 Hgr HA2 Hwn
          go_wp2_with fail
          go_still_tail 12, (by kernel_rfl)
          go_wp2_with fail
          refine (Hrec.out).mono ?_
          rintro e w2 ⟨rfl, ho2, hg2⟩
          obtain ⟨f1, f2, f3, f4, f5⟩ := Fin.out w2 ho2 hg2
          have F1 := Lib.hid f1
          have F2 := Lib.hid f2
          have f6 : (w2.setCell ⟨g, k, none⟩ (.int .i64 l)).cell? ⟨g, k, none⟩ = some (.int .i64 l) := (f1.cellAt k (by omega)).trans (ints_get Hlk.out)
          clear ho2 hg2 f1 f2 q1 q2 q3
          go_wp2_with fail
          go_still_tail 12, (by kernel_rfl)
          cases hcn : can cap (ws.drop (i + 1)) (ld.set k (l + x))
          · have Hcn := Lib.hid hcn
            by_cases h0 : l = 0
            · have h0' : (l == 0) = true := by simp [h0]
              have H00 := Lib.hid h0
              clear h0
              go_wp2_with fail
              go_ret
              exact ⟨ret_bool (by rw [Hdrop.out, Hcan.out, canFrom_zero Hlk.out (by rw [Hcn.out]; simp) H00.out]), F1.out.drew, ⟨F2.out.os, F2.out.tape, F2.out.output, F2.out.size, F2.out.block⟩⟩
            · have h0' : (l == 0) = false := by simp [h0]
              go_wp2_with fail
              go_roundw
              case rel => exact ⟨k + 1, by omega, by go_num, Lib.hid ⟨F1.out.drew, ⟨F2.out.os, F2.out.tape, F2.out.output, F2.out.size, F2.out.block⟩, by rw [Hcan.out, canFrom_next Hlk.out (by rw [Hcn.out]; simp) h0]⟩⟩
              case measure => simp [intOf]; omega
          · have Hcn := Lib.hid hcn
            go_wp2_with fail
            go_ret
            exact ⟨ret_bool (by rw [Hdrop.out, Hcan.out, canFrom_yes Hlk.out hle Hcn.out]), F1.out.drew, ⟨F2.out.os, F2.out.tape, F2.out.output, F2.out.size, F2.out.block⟩⟩
        · by_cases h0 : l = 0
          · exact absurd hle (by omega)
          · have h0' : (l == 0) = false := by simp [h0]
            go_wp2_with fail
            go_quiet (fail)
            go_wp2_with fail
            go_roundw
            case rel => exact ⟨k + 1, by omega, by go_num, Lib.hid ⟨own_heap rfl Hwn.out, ⟨Hgr.out.os, Hgr.out.tape, Hgr.out.output, Hgr.out.size, Hgr.out.block⟩, by rw [Hcan.out, canFrom_next Hlk.out (by omega) h0]⟩⟩
            case measure => simp [intOf]; omega
      · have hk' : k = ld.length := by omega
        subst hk'
        obtain ⟨hown, hgr, hcan⟩ := hrow.out
        have Hown2 := Lib.hid hown
        have Hgr := Lib.hid hgr
        have Hcan := Lib.hid hcan
        clear hrow hown hgr hcan
        go_wp2_with fail
        go_ret
        exact ⟨ret_bool (by rw [Hdrop.out, Hcan.out, canFrom_end _ _ _ _ _ (Nat.le_refl _)]), Hown2.out, Hgr.out⟩

set_option maxHeartbeats 800000 in
theorem impl_lt (A : Option Addr) (c : Nat) (ws : List Int) (cap : Int) (w : World) (hA : Rd w A (ints ws)) (hn : ws.length ≤ maxLen) (hc : ws.length ≤ c) :
    Calls Try.prog 22 #[.slice A ws.length c, .int .i64 cap] w fun e w' => e = .returned (.int .i64 (lt ws cap)) ∧ Below w.heap.size w w' := by
  obtain ⟨i0, hi, hz0, hz1, hz2⟩ := info_parts int_info
  cases hw : wv ws cap
  · have Hf := Lib.hid (lt_no hw)
    go_enter Try.func22, Try.ntmps22
    go_wp2_with (go_at_call 17; refine (impl_wv _ _ _ _ _ hA hn).mono ?_; rintro e w' ⟨rfl, rfl⟩)
    go_ret
    exact ⟨ret_int Hf.out.symm, Below.refl _ _⟩
  · have Hw := Lib.hid hw
    have Hsp := Lib.hid (leastT_spec hw)
    obtain ⟨hwm, hl8, hc1, hc2⟩ := wv_parts hw
    have Hwm := Lib.hid hwm
    have HA := Lib.hid hA
    clear hwm
    go_enter Try.func22, Try.ntmps22
    go_wp2_with (go_at_call 17; refine (impl_wv _ _ _ _ _ hA hn).mono ?_; rintro e w' ⟨rfl, rfl⟩)
    clear hA hw
    go_loopw [5] (fun i wr => ∃ k : Nat, k ≤ leastT ws cap ∧ i = .int .i64 k ∧ Below w.heap.size w wr ∧ Hid (∀ m, m < k → can cap ws (List.replicate m 0) = false)) (fun i _ => leastT ws cap - (intOf i).toNat)
    case atStart => exact ⟨0, Nat.zero_le _, rfl, Below.refl _ _, Lib.hid fun m hm => absurd hm (Nat.not_lt_zero m)⟩
    case round =>
      obtain ⟨k, hk, rfl, hb, hall⟩ := hrel
      have hk8 : k ≤ 8 := by have := Hsp.out.1; omega
      have hz := hb.size
      go_wp2_with (at_make; refine wpList_make_full _ rfl _ _ _ rfl wr.heap.size 3 i0 _ 1 Try.underlying22 hi hz0 hz1 _ _ _ _ k rfl rfl rfl rfl (by rw [hz2]; omega) (by unfold maxLen; omega) (Nat.le_refl _) ?_; intro w1 hown1 hg1)
      rw [made_ints] at hown1
      have hb1 : Below wr.heap.size wr w1 := (Below.refl _ _).grown hg1 (Nat.le_refl _) (by simp)
      have hbw : Below w.heap.size w w1 := below_trans' hb hb1
      have hrec : Calls Try.prog 42 #[.slice A ws.length c, .int .i64 cap,  .slice (some ⟨wr.heap.size, 0, none⟩) k k] w1 fun e w' => e = .returned (.bool (can cap ws (List.replicate k 0))) ∧ w1.grownBy w' (some wr.heap.size) := by
        have hne : ∀ ad, A = some ad → ws ≠ [] → some wr.heap.size ≠ some ad.block := by
          rintro ad rfl hws e
          obtain ⟨ad1, z, e1, _, hc0⟩ := HA.out.int (k := 0) (by cases ws <;> simp_all)
          injection e1 with e1
          subst e1
          injection e with e
          have := World.block_lt_of_cell? _ _ hc0
          rw [Addr.add_zero'] at this
          omega
        have hld : ∀ y ∈ List.replicate k (0 : Int), 0 ≤ y ∧ y ≤ cap := fun y hy => by have := List.eq_of_mem_replicate hy; omega
        have h1 := impl_can cap hc1 hc2 ws A c (some ⟨wr.heap.size, 0, none⟩) k wr.heap.size (List.replicate k 0) w1 Hwm.out hl8 hc hld (by simpa using hk8) (HA.out.below hbw) (by simpa using hown1) (by simpa [Value.ownBlock] using hne)
        simp only [List.length_replicate] at h1
        exact h1.mono fun e w' ⟨q1, _, q3⟩ => ⟨q1, by simpa [Value.ownBlock] using q3⟩
      have Hrec := Lib.hid hrec
      have Hown1 := Lib.hid hown1
      clear hrec hown1 hg1
      refine (Hrec.out).mono ?_
      rintro e w2 ⟨rfl, hg2⟩
      have hb2 : Below w.heap.size w w2 := hbw.grown hg2 hbw.size (by simp; omega)
      cases hcn : can cap ws (List.replicate k 0)
      · have Hcn := Lib.hid hcn
        have hlt : k < leastT ws cap := by
          rcases Nat.eq_or_lt_of_le hk with rfl | h
          · rw [Hsp.out.2.1] at hcn; cases hcn
          · exact h
        clear hcn
        go_wp2_with fail
        go_roundw
        case rel => exact ⟨k + 1, by omega, by go_num, hb2, Lib.hid fun m hm => by
          rcases Nat.eq_or_lt_of_le (Nat.le_of_lt_succ hm) with rfl | h
          · exact Hcn.out
          · exact hall.out m h⟩
        case measure => simp [intOf]; omega
      · have Hcn := Lib.hid hcn
        clear hcn
        go_wp2_with fail
        go_ret
        exact ⟨ret_int (lt_yes Hw.out Hcn.out hall.out).symm, hb2⟩

set_option maxHeartbeats 800000 in
theorem spec_lt (A : Option Addr) (c : Nat) (ws : List Int) (cap : Int) (w : World) (hA : Rd w A (ints ws)) (hn : ws.length ≤ maxLen) (hc : ws.length ≤ c) :
    Calls Try.prog 21 #[.slice A ws.length c, .int .i64 cap] w fun e w' => e = .returned (.int .i64 (lt ws cap)) ∧ Below w.heap.size w w' := by
  obtain ⟨i0, hi, hz0, hz1, hz2⟩ := info_parts int_info
  cases hw : wv ws cap
  · have Hf := Lib.hid (lt_no hw)
    go_enter Try.func21, Try.ntmps21
    go_wp2_with (go_at_call 15; refine (spec_wv _ _ _ _ _ hA hn).mono ?_; rintro e w' ⟨rfl, rfl⟩)
    go_ret
    exact ⟨ret_int Hf.out.symm, Below.refl _ _⟩
  · have Hw := Lib.hid hw
    have Hsp := Lib.hid (leastT_spec hw)
    obtain ⟨hwm, hl8, hc1, hc2⟩ := wv_parts hw
    have Hwm := Lib.hid hwm
    have HA := Lib.hid hA
    clear hwm
    go_enter Try.func21, Try.ntmps21
    go_wp2_with (go_at_call 15; refine (spec_wv _ _ _ _ _ hA hn).mono ?_; rintro e w' ⟨rfl, rfl⟩)
    clear hA hw
    go_loopw [5] (fun i wr => ∃ k : Nat, k ≤ leastT ws cap ∧ i = .int .i64 k ∧ Below w.heap.size w wr ∧ Hid (∀ m, m < k → can cap ws (List.replicate m 0) = false)) (fun i _ => leastT ws cap - (intOf i).toNat)
    case atStart => exact ⟨0, Nat.zero_le _, rfl, Below.refl _ _, Lib.hid fun m hm => absurd hm (Nat.not_lt_zero m)⟩
    case round =>
      obtain ⟨k, hk, rfl, hb, hall⟩ := hrel
      have hk8 : k ≤ 8 := by have := Hsp.out.1; omega
      have hz := hb.size
      go_wp2_with (at_make; refine wpList_make_full _ rfl _ _ _ rfl wr.heap.size 3 i0 _ 1 Try.underlying22 hi hz0 hz1 _ _ _ _ k rfl rfl rfl rfl (by rw [hz2]; omega) (by unfold maxLen; omega) (Nat.le_refl _) ?_; intro w1 hown1 hg1)
      rw [made_ints] at hown1
      have hb1 : Below wr.heap.size wr w1 := (Below.refl _ _).grown hg1 (Nat.le_refl _) (by simp)
      have hbw : Below w.heap.size w w1 := below_trans' hb hb1
      have hrec : Calls Try.prog 41 #[.slice A ws.length c, .int .i64 cap, .int .i64 0, .slice (some ⟨wr.heap.size, 0, none⟩) k k] w1 fun e w' => e = .returned (.bool (can cap ws (List.replicate k 0))) ∧ w1.grownBy w' (some wr.heap.size) := by
        have hne : ∀ ad, A = some ad → ws ≠ [] → some wr.heap.size ≠ some ad.block := by
          rintro ad rfl hws e
          obtain ⟨ad1, z, e1, _, hc0⟩ := HA.out.int (k := 0) (by cases ws <;> simp_all)
          injection e1 with e1
          subst e1
          injection e with e
          have := World.block_lt_of_cell? _ _ hc0
          rw [Addr.add_zero'] at this
          omega
        have hld : ∀ y ∈ List.replicate k (0 : Int), 0 ≤ y ∧ y ≤ cap := fun y hy => by have := List.eq_of_mem_replicate hy; omega
        have h1 := spec_can cap hc1 hc2 ws A c (some ⟨wr.heap.size, 0, none⟩) k wr.heap.size Hwm.out hl8 ws.length 0 (List.replicate k 0) w1 (by simp) hld (by simpa using hk8) (HA.out.below hbw) (by simpa using hown1) (by simpa using hne)
        simp only [List.length_replicate] at h1
        exact h1.mono fun e w' ⟨q1, _, q3⟩ => ⟨q1, by simpa [Value.ownBlock] using q3⟩
      have Hrec := Lib.hid hrec
      have Hown1 := Lib.hid hown1
      clear hrec hown1 hg1
      refine (Hrec.out).mono ?_
      rintro e w2 ⟨rfl, hg2⟩
      have hb2 : Below w.heap.size w w2 := hbw.grown hg2 hbw.size (by simp; omega)
      cases hcn : can cap ws (List.replicate k 0)
      · have Hcn := Lib.hid hcn
        have hlt : k < leastT ws cap := by
          rcases Nat.eq_or_lt_of_le hk with rfl | h
          · rw [Hsp.out.2.1] at hcn; cases hcn
          · exact h
        clear hcn
        go_wp2_with fail
        go_roundw
        case rel => exact ⟨k + 1, by omega, by go_num, hb2, Lib.hid fun m hm => by
          rcases Nat.eq_or_lt_of_le (Nat.le_of_lt_succ hm) with rfl | h
          · exact Hcn.out
          · exact hall.out m h⟩
        case measure => simp [intOf]; omega
      · have Hcn := Lib.hid hcn
        clear hcn
        go_wp2_with fail
        go_ret
        exact ⟨ret_int (lt_yes Hw.out Hcn.out hall.out).symm, hb2⟩

end Go.Proofs.Ytiochiokcefbkaa
