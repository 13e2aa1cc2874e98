
/- The walk of ParseRules of the reference. -/
import Derived.Test.YtebplaaneeekdaaDoorNtPrS
import Derived.Deep.RegionLaw
namespace Go.Proofs.YtebplaaneeekdaaDoor
open Go.RowKit
set_option linter.unusedVariables false

theorem tup_b {u : Value} {a b : Bool} (h : a = b) : Ending.returned (.tuple #[u, .bool a]) = .returned (.tuple #[u, .bool b]) := by rw [h]
theorem or_nil {w : World} {lo hi : Nat} {u : Value} {t : ByteArray} (he : prL t = []) (h : Own w lo hi 32 2 u 0 (rcs [])) : OR w lo hi u (prL t) := by rw [he]; exact h
theorem str_cell {w : World} {base n : Nat} {pv : Value} {ps : List ByteArray} (h : w.ownsRow base 9 1 pv n (strs ps)) (hn : ps.length = n) {k : Nat} {p : ByteArray} (hp : ps[k]? = some p) : ∃ ad c, pv = .slice (some ad) n c ∧ w.cell? (ad.add k) = some (.string p) := by
  have hk := (List.getElem?_eq_some_iff.1 hp).1
  obtain ⟨A, c, rfl, hA, _, _⟩ := sl_own h
  obtain ⟨ad, rfl, hc⟩ := hA k _ (strs_get hp)
  exact ⟨ad, c, rfl, hc⟩
theorem kept_row {w w' : World} {b1 b2 n1 n2 s1 s2 : Nat} {e1 e2 : TypeId} {v1 v2 : Value} {c1 c2 : List Value} (h1 : w.ownsRow b1 e1 s1 v1 n1 c1) (h2 : w.ownsRow b2 e2 s2 v2 n2 c2) (hne : e1 ≠ e2) (hg : w.grownBy w' v2.ownBlock) : w'.ownsRow b1 e1 s1 v1 n1 c1 :=
  h1.kept hg (apart_row (own_apart_type h1 h2 hne))


set_option maxRecDepth 100000 in
set_option maxHeartbeats 3200000 in
theorem spec_pr (t : ByteArray) (w : World) (hs : t.size ≤ 1048576) :
    Calls Tryd.prog 4 #[.string t] w fun e w' => ∃ u, e = .returned (.tuple #[u, .bool (prB t)]) ∧ OR w' w.heap.size w'.heap.size u (prL t) ∧ Below w.heap.size w w' := by
  have Hb0 : Hid (Below w.heap.size w (w.alloc (.cells #[] 32))) := Lib.hid ((Below.refl _ _).alloc (Nat.le_refl _) _)
  have Hl0 := Lib.hid (own_lit0 w)
  by_cases hd : t = dashT
  · have e0 : (t.toList == (⟨#[45]⟩ : ByteArray).toList) = true := str_same hd
    have e1 : t.toList = [45] := by rw [hd, tl_data]; rfl
    have e2 : (t.toList == [45]) = true := by rw [e1]; rfl
    have Hq := Lib.hid (prB_dash hd)
    clear hd
    go_enter Tryd.func4, Tryd.ntmps4
    go_wp2_with fail
    go_ret2
    exact ⟨_, tup_b Hq.out.1.symm, or_nil Hq.out.2 Hl0.out, Hb0.out⟩
  have e0 : (t.toList == (⟨#[45]⟩ : ByteArray).toList) = false := str_diff hd
  have e1 : ¬ t.toList = [45] := fun h => hd (dl_inj (show t.data.toList = dashT.data.toList from by rw [← tl_data, h]; rfl))
  have e2 : (t.toList == [45]) = false := by simpa using e1
  have Hd := Lib.hid hd
  have Hcut := Lib.hid (cut9 t (w.alloc (.cells #[] 32)) hs)
  clear hd
  go_enter Tryd.func4, Tryd.ntmps4
  go_wp2_with fail
  refine Hcut.out.mono ?_
  rintro e w1 ⟨pv, rfl, hpo, hb1⟩
  obtain ⟨ps, hps⟩ : ∃ ps, ps = parts t := ⟨_, rfl⟩
  rw [← hps] at hpo
  have Hps := Lib.hid hps
  have hpp : 0 < ps.length := by rw [hps]; exact parts_pos t
  have hpl : ps.length ≤ t.size + 1 := by rw [hps]; exact parts_len t
  have Hpo := Lib.hid hpo.row
  have Hb1 := Lib.hid (below_trans' Hb0.out hb1)
  have Ho1 : Hid (w1.ownsRow w.heap.size 32 2 (.slice (some ⟨w.heap.size, 0, none⟩) 0 0) 0 (rcs [])) := Lib.hid (own_below Hl0.out.row hb1)
  obtain ⟨PA, pc, rfl, _, _, _⟩ := hpo.sl
  clear hpo hb1 Hcut hps Hl0 Hb0
  go_wp2_with fail
  go_loopw [4, 6] (fun o i wr => ∃ (k : Nat) (u : Value) (rs : List Rul), i = .int .i64 k ∧ u = o ∧ k ≤ ps.length ∧ k ≤ 21 ∧ Hid (rs.length = k) ∧ Hid (rs = rls (ps.take k)) ∧ Hid (Good ps k) ∧ Hid (Below w.heap.size w wr) ∧ Hid (wr.ownsRow w.heap.size 32 2 u k (rcs rs)) ∧ Hid (wr.ownsRow (w.alloc (.cells #[] 32)).heap.size 9 1 (.slice PA ps.length pc) ps.length (strs ps))) (fun _ i _ => ps.length - (intOf i).toNat)
  case atStart => exact ⟨0, _, [], rfl, rfl, Nat.zero_le _, Nat.zero_le _, Lib.hid rfl, Lib.hid rfl, Lib.hid (good_zero _), Hb1, Ho1, Hpo⟩
  case round =>
    obtain ⟨k, u, rs, rfl, rfl, hk, hk21, hrl, Hrs, Hg, Hb, Ho, Hp⟩ := hrel
    clear Hb1 Ho1 Hpo
    by_cases hlt : k < ps.length ∧ k ≤ 20
    · obtain ⟨hlt, hk20⟩ := hlt
      obtain ⟨p, hp⟩ : ∃ p, ps[k]? = some p := ⟨_, List.getElem?_eq_getElem hlt⟩
      have Hpk := Lib.hid hp
      obtain ⟨ad, c, hce, hcA⟩ := str_cell Hp.out rfl hp
      injection hce with hce1 hce2 hce3
      subst hce1 hce3
      have hpz : p.size ≤ t.size := parts_le (by rw [← Hps.out]; exact List.mem_of_getElem? hp)
      have Hf := Lib.hid (find9 p wr (by unfold maxLen; omega))
      clear hp
      go_wp2_with fail
      refine Hf.out.mono ?_
      rintro e w2 ⟨rfl, rfl⟩
      clear Hf
      rcases index_cases (dl p) 62 with hi | ⟨i, hi, hil⟩
      · rw [hi]
        have Hno : Hid (prB t = false) := Lib.hid (prB_bad Hd.out (by rw [← Hps.out]; exact Hpk.out) (rl_none hi))
        clear hi
        have Hl := Lib.hid (own_lit0 wr)
        go_wp2_with fail
        go_ret2
        exact ⟨_, tup_b Hno.out.symm, or_nil (prL_no Hno.out) (Hl.out.wide Hb.out.size (Nat.le_refl _)), Hb.out.alloc Hb.out.size _⟩
      · rw [hi]
        rw [dl_length] at hil
        have Hr := Lib.hid (rl_some hi)
        have Hg2 := Lib.hid (Hg.out.step Hpk.out Hr.out)
        have Hrs2 : Hid (rs ++ [(p.extract 0 i, p.extract (i + 1) p.size)] = rls (ps.take (k + 1))) := Lib.hid (by rw [rls_snoc Hpk.out Hr.out, ← Hrs.out])
        have hal : Below wr.heap.size wr ((wr.alloc (.cells #[.string (p.extract 0 i), .string (p.extract (i + 1) p.size)] 32)).drew) := ((Below.refl _ _).alloc (Nat.le_refl _) _).drew
        have Hal := Lib.hid hal
        have hnw : Rd ((wr.alloc (.cells #[.string (p.extract 0 i), .string (p.extract (i + 1) p.size)] 32)).drew) (some ⟨wr.heap.size, 0, none⟩) (rcs [(p.extract 0 i, p.extract (i + 1) p.size)]) := (rd_new wr (rcs [(p.extract 0 i, p.extract (i + 1) p.size)]) 32).below (Below.refl _ _).drew
        have Hnw := Lib.hid hnw
        have Ho4 := Lib.hid (own_below Ho.out hal)
        have Hp4 := Lib.hid (own_below Hp.out hal)
        have Hs4 := Lib.hid (Nat.le_trans Hb.out.size hal.size)
        clear hal hnw
        obtain ⟨C, cp, rfl, _, _, _, _⟩ := own_form Ho.out
        have n1 : i ≤ p.size := by omega
        have n2 : i + 1 ≤ p.size := by omega
        have n3 : (i : Int) + 1 ≤ (p.size : Int) := by omega
        have n4 : IntKind.i64.wrap ((i : Int) + 1) = (i : Int) + 1 := by rw [IntKind.wrap_i64]; omega
        have n5 : ((i : Int) + 1).toNat = i + 1 := by omega
        have n6 : (0 : Int) ≤ (i : Int) + 1 := by omega
        clear hi Hr Hg
        go_wp2_with fail
        go_region_law ((refine step_append_rd (by rfl) (.tmp 32) (.tmp 47) 22 (by rfl) rul_elem (base := w.heap.size) (.slice C k cp) k (rcs rs) (by rfl) Ho4.out (some ⟨wr.heap.size, 0, none⟩) 1 1 (rcs [(p.extract 0 i, p.extract (i + 1) p.size)]) (by rfl) (by rfl) Hnw.out (rcs_oneCell _) (by unfold maxLen; omega) (by omega) Hs4.out ?_; intro v5 w5 hown5 hg5 hm5; have Hp5 := Lib.hid (kept_row Hp4.out Ho4.out (by decide) hg5); have Hb5 := Lib.hid ((below_step Hb.out Hb.out.size Hal.out).grown hg5 Hs4.out (fun g e => (Ho4.out.lt g e).1))))
        all_goals
          have Ho5 : Hid (w5.ownsRow w.heap.size 32 2 v5 (k + 1) (rcs (rs ++ [(p.extract 0 i, p.extract (i + 1) p.size)]))) := Lib.hid (by rw [show rcs (rs ++ [(p.extract 0 i, p.extract (i + 1) p.size)]) = rcs rs ++ rcs [(p.extract 0 i, p.extract (i + 1) p.size)] from cs2_append _ _]; exact hown5)
          have Hrl2 : Hid ((rs ++ [(p.extract 0 i, p.extract (i + 1) p.size)]).length = k + 1) := Lib.hid (by rw [List.length_append, List.length_singleton, hrl.out])
          clear hown5 hg5 hm5 Ho Hp Hb Ho4 Hp4 Hs4 Hnw Hal
          go_wp2_with fail
          go_roundw
          case rel => exact ⟨k + 1, _, _, by go_num, rfl, by omega, by omega, Hrl2, Hrs2, Hg2, Hb5, Ho5, Hp5⟩
          case measure => simp [intOf]; omega
    · have hgo : (k = ps.length ∧ k ≤ 20) ∨ k = 21 := by omega
      have Hsr : Hid (Szr rs) := Lib.hid (by
        rw [Hrs.out, Hps.out]
        intro r hr
        have := rls_size r hr
        unfold maxLen; omega)
      have Hfm := Lib.hid (spec_fmt u rs wr (by unfold Rt; rw [hrl.out]; exact sl_own Ho.out) Hsr.out)
      obtain ⟨p0, hp0⟩ : ∃ p, ps[0]? = some p := ⟨_, List.getElem?_eq_getElem hpp⟩
      have hte : t ≠ (⟨#[]⟩ : ByteArray) := by
        obtain ⟨r, hr⟩ := Hg.out 0 (by omega) p0 hp0
        exact text_pos (by rw [← Hps.out]; exact hp0) hr
      have Hte := Lib.hid hte
      obtain ⟨C, cp, rfl, _, _, _, _⟩ := own_form Ho.out
      clear hte hp0
      rcases hgo with ⟨hk', hk20⟩ | hk'
      · have e1 : decide ((k : Int) < (ps.length : Int)) = false := decide_eq_false (by omega)
        have Hfull : Hid (rs = rls (parts t)) := Lib.hid (by rw [Hrs.out, hk', List.take_length, Hps.out])
        have Hgood : Hid (Good (parts t) (parts t).length) := Lib.hid (by rw [← Hps.out, ← hk']; exact Hg.out)
        have Hl20 : Hid ((parts t).length ≤ 20) := Lib.hid (by rw [← Hps.out]; omega)
        have hpb := prB_is Hd.out Hgood.out Hl20.out
        clear hk'
        cases hrv : rv rs with
        | false =>
          have Hno : Hid (prB t = false) := Lib.hid (by rw [hpb, ← Hfull.out, hrv])
          have e2 : ((fmtR rs).toList == t.toList) = false := str_diff (by rw [fmtR_no hrv]; exact Hte.out.symm)
          clear hpb hrv
          go_wp2_with fail
          refine Hfm.out.mono ?_
          rintro e w6 ⟨rfl, hb6⟩
          replace Hb := Lib.hid (below_trans' Hb.out hb6)
          have Hl := Lib.hid (own_lit0 w6)
          clear hb6
          go_wp2_with fail
          go_ret2
          exact ⟨_, tup_b Hno.out.symm, or_nil (prL_no Hno.out) (Hl.out.wide Hb.out.size (Nat.le_refl _)), Hb.out.alloc Hb.out.size _⟩
        | true =>
          have Hyes : Hid (prB t = true) := Lib.hid (by rw [hpb, ← Hfull.out, hrv])
          have e2 : ((fmtR rs).toList == t.toList) = true := str_same (by rw [Hfull.out]; exact fmt_back Hgood.out (by rw [← Hfull.out]; exact hrv))
          clear hpb hrv
          go_wp2_with fail
          refine Hfm.out.mono ?_
          rintro e w6 ⟨rfl, hb6⟩
          replace Hb := Lib.hid (below_trans' Hb.out hb6)
          replace Ho := Lib.hid (own_below Ho.out hb6)
          clear hb6
          go_wp2_with fail
          go_ret2
          refine ⟨_, tup_b Hyes.out.symm, ?_, Hb.out⟩
          rw [prL_yes Hd.out Hyes.out, ← Hfull.out]
          unfold OR
          rw [hrl.out]
          exact own_of Ho.out
      · have e1 : decide ((k : Int) ≤ 20) = false := decide_eq_false (by omega)
        have Hno : Hid (prB t = false) := Lib.hid (prB_long Hd.out (by rw [← Hps.out]; omega))
        have e2 : ((fmtR rs).toList == t.toList) = false := str_diff (by rw [fmtR_no (rv_long (by rw [hrl.out]; omega))]; exact Hte.out.symm)
        clear hk'
        by_cases hk2 : k < ps.length
        all_goals
          go_wp2_with fail
          refine Hfm.out.mono ?_
          rintro e w6 ⟨rfl, hb6⟩
          replace Hb := Lib.hid (below_trans' Hb.out hb6)
          have Hl := Lib.hid (own_lit0 w6)
          clear hb6
          go_wp2_with fail
          go_ret2
          exact ⟨_, tup_b Hno.out.symm, or_nil (prL_no Hno.out) (Hl.out.wide Hb.out.size (Nat.le_refl _)), Hb.out.alloc Hb.out.size _⟩
end Go.Proofs.YtebplaaneeekdaaDoor
