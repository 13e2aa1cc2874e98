
/- The marks of offices. -/
import Derived.Test.YthmngaioimohaaaNtQ2
namespace Go.Proofs.Ythmngaioimohaaa
open Go.RowKit
set_option linter.unusedVariables false

theorem Rows.mark {w w' : World} {lo hi : Nat} {us : List Value} {xss : List (List Rul)} (h : RowsR w lo hi us xss) {i : Nat} {u : Value} {xs ys : List Rul} (hu : us[i]? = some u) (hx : xss[i]? = some xs) (hl : ys.length = xs.length) (ho : w'.ownsRow lo 50 2 u ys.length (rcs ys)) (hg : w.grownBy w' u.ownBlock) :
    RowsR w' lo hi us (xss.set i ys) := by
  have hset : us = us.set i u := by
    apply List.ext_getElem?
    intro j
    by_cases hj : i = j
    · subst hj; rw [List.getElem?_set_self (List.getElem?_eq_some_iff.1 hu).1, hu]
    · rw [List.getElem?_set_ne hj]
  have key := Rows.set (w' := w') h (k := i) (u := u) (xs := ys) ⟨ho, (h.row i u xs hu hx).top⟩ (fun j v zs hj hv hz => by
    have h1 := h.row j v zs hv hz
    refine ⟨h1.row.kept hg ?_, h1.top⟩
    have hap : Apart v u := by
      rcases Nat.lt_or_ge i j with h2 | h2
      · exact (h.apart i j u v h2 hu hv).symm
      · exact h.apart j i v u (by omega) hv hu
    exact apart_row hap) (fun j v hj hv => by
    rcases Nat.lt_or_ge i j with h2 | h2
    · exact (h.apart i j u v h2 hu hv).symm
    · exact h.apart j i v u (by omega) hv hu)
  rwa [← hset] at key

structure MkQ (w : World) (lo hi : Nat) (v : Value) (ps : List (ByteArray × Value)) (net : List Off) (qs : List (ByteArray × Value)) (yss : List (List Rul)) : Prop where
  own : w.ownsRow lo 46 2 v ps.length (cs2 otf qs)
  len : qs.length = ps.length
  val : ∀ i : Nat, (qs[i]?).map Prod.snd = (ps[i]?).map Prod.snd
  rows : RowsR w lo hi (ps.map (·.2)) yss
  num : ∀ (i : Nat) (ys : List Rul) (o : Off), yss[i]? = some ys → net[i]? = some o → ys.length = o.2.length
  yl : yss.length = ps.length

set_option maxRecDepth 100000 in
set_option maxHeartbeats 1600000 in
theorem markQ_c (v : Value) (net : List Off) (lo hi : Nat) (x0 : Int) (k0 : Nat) (hx0 : x0 = (k0 : Int)) (w : World) (h : OQ w lo hi v net) (hs : SmQ net) (h1 : k0 ≤ 1000000000) :
    Calls Try.prog 19 #[v, .int .i64 x0] w fun e w' => e = .returned (.int .i64 ((k0 : Int) + (cntQ net : Int))) ∧ True ∧ Only w w' lo hi := by
  subst hx0
  obtain ⟨ps, hv, hrows, hnm, hpl⟩ := h
  obtain ⟨A, c, rfl⟩ := own_shape hv.row
  have Hs := Lib.hid hs
  have hnl := hs.len
  have Hpl := Lib.hid hpl
  have Htop := Lib.hid hv.top
  have H0 : Hid (∃ qs yss, MkQ w lo hi (.slice A ps.length c) ps net qs yss) := Lib.hid ⟨ps, net.map (·.2), ⟨hv.row, rfl, fun _ => rfl, hrows, fun i ys o a b => by rw [List.getElem?_map, b] at a; simp at a; rw [a], by simp [hpl]⟩⟩
  have hp2 : ps.length ≤ 1048576 := by omega
  clear hv hrows hnm hs hpl hnl
  go_enter Try.func19, Try.ntmps19
  go_wp2_with fail
  go_loopw [1, 5] (fun kk i wr => ∃ (k q : Nat), k ≤ ps.length ∧ i = .int .i64 k ∧ kk = .int .i64 ((k0 : Int) + (q : Int)) ∧ q ≤ 3145728 ∧ Hid (q = k + 2 * numR (net.take k)) ∧ Hid (Only w wr lo hi) ∧
      Hid (∃ qs yss, MkQ wr lo hi (.slice A ps.length c) ps net qs yss)) (fun _ i _ => ps.length - (intOf i).toNat)
  case atStart => exact ⟨0, 0, Nat.zero_le _, rfl, by simp, by omega, Lib.hid rfl, Lib.hid (Only.refl _ _ _), H0⟩
  case round =>
    obtain ⟨k, q, hk, rfl, rfl, hq, Hq, Hon, Hm⟩ := hrel
    obtain ⟨qs, yss, hm⟩ := Hm.out
    have HM := Lib.hid hm
    clear H0 Hm hm
    by_cases hlt : k < ps.length
    · obtain ⟨g, rfl⟩ := own_some HM.out.own (by omega)
      obtain ⟨p, hp⟩ : ∃ p, qs[k]? = some p := ⟨_, List.getElem?_eq_getElem (by rw [HM.out.len]; exact hlt)⟩
      obtain ⟨p', hp'⟩ : ∃ p', ps[k]? = some p' := ⟨_, List.getElem?_eq_getElem hlt⟩
      obtain ⟨ys, hy⟩ : ∃ ys, yss[k]? = some ys := ⟨_, List.getElem?_eq_getElem (by rw [HM.out.yl]; exact hlt)⟩
      obtain ⟨o, ho⟩ : ∃ o, net[k]? = some o := ⟨_, List.getElem?_eq_getElem (by rw [← Hpl.out]; exact hlt)⟩
      have hpe : p.2 = p'.2 := by have := HM.out.val k; rw [hp, hp'] at this; simpa using this
      have hu : (ps.map (·.2))[k]? = some p.2 := by rw [List.getElem?_map, hp', hpe]; rfl
      have hyl : ys.length = o.2.length := HM.out.num k ys o hy ho
      have hyn : ys.length ≤ 1048576 := by rw [hyl]; exact Hs.out.each o (List.mem_of_getElem? ho)
      have Hq2 : Hid (q + 1 + 2 * ys.length = k + 1 + 2 * numR (net.take (k + 1))) := Lib.hid (by rw [numR_snoc ho, hyl, Hq.out]; omega)
      have hqb : q + 1 + 2 * ys.length ≤ 3145728 := by
        have h5 := Hq2.out
        have h6 := numR_le net (k + 1)
        have h7 := Hs.out.num
        omega
      have Hor := Lib.hid (HM.out.rows.row k p.2 ys hu hy)
      obtain ⟨U, uc, hue⟩ := own_shape Hor.out.row
      obtain ⟨pn, pv⟩ := p
      simp only at hue
      subst hue
      obtain ⟨hg0, hg1⟩ := cs2_get (f := otf) hp
      simp only [otf] at hg0 hg1
      have Hg0 := Lib.hid hg0
      have Hg1 := Lib.hid hg1
      have Hp := Lib.hid (And.intro hp (And.intro hp' (And.intro hy (And.intro hu hpe))))
      clear hp hp' hy ho hpe hu hyl hg0 hg1
      go_wp2_with fail
      refine (markText_int _ (k0 + q) (by omega) _ (by omega)).mono ?_
      rintro e w1 ⟨rfl, hb1⟩
      have hown1 := own_below HM.out.own hb1
      have hrows1 := HM.out.rows.below hb1
      have hc2 : w1.cell? ⟨g, k * 2, none⟩ = some (.string pn) := (hown1.cellAt _ (by omega)).trans Hg0.out
      have hfz : w1.frozen? ⟨g, k * 2, none⟩ = false := hown1.frozenAt _
      have st1 := hown1.stored (k * 2) (.string (mt (k0 + q)))
      have rows1 := hrows1.kept st1.2 (fun v hv => by
        obtain ⟨zs, hz⟩ := hrows1.mem hv
        exact apart_row (own_apart_type hz.row hown1 (by decide)))
      have hl2 : ((cs2 otf qs).set (k * 2) (.string (mt (k0 + q))))[k * 2 + 1]? = some (.slice U ys.length uc) := by rw [List.getElem?_set_ne (by omega)]; exact Hg1.out
      have hc3 : (w1.setCell ⟨g, k * 2, none⟩ (.string (mt (k0 + q)))).cell? ⟨g, k * 2 + 1, none⟩ = some (.slice U ys.length uc) := (st1.1.cellAt _ (by omega)).trans hl2
      have hset := cs2_set (f := otf) qs k (mt (k0 + q), Value.slice U ys.length uc)
      simp only [otf] at hset
      have Hset : Hid ((cs2 otf qs).set (k * 2) (.string (mt (k0 + q))) = cs2 otf (qs.set k (mt (k0 + q), Value.slice U ys.length uc))) := Lib.hid (by
        rw [show cs2 otf (qs.set k (mt (k0 + q), Value.slice U ys.length uc)) = _ from hset.symm]
        apply List.ext_getElem?
        intro j
        by_cases hj : k * 2 + 1 = j
        · subst hj
          rw [hl2, List.getElem?_set_self (by have := (List.getElem?_eq_some_iff.1 hl2).1; simpa using this)]
        · rw [List.getElem?_set_ne hj])
      have Hon1 : Hid (Only w (w1.setCell ⟨g, k * 2, none⟩ (.string (mt (k0 + q)))) lo hi) := Lib.hid ((Hon.out.trans (Only.of_below hb1 _ _)).trans (Only.grown st1.2 fun g' hg' => ⟨(hown1.lt g' hg').1, Htop.out g' hg'⟩))
      have Hst := Lib.hid st1.1
      have Hrows := Lib.hid rows1
      clear st1 rows1 hrows1 hown1 hset hl2 hb1 Hon
      go_wp2_with fail
      refine (markR _ lo ys _ (k0 + q + 1) (by omega) _ (Hrows.out.row k _ ys Hp.out.2.2.2.1 Hp.out.2.2.1).row hyn (by omega)).mono ?_
      rintro e w3 ⟨rfl, ho3, hg3⟩
      have hr3 := Hrows.out.mark Hp.out.2.2.2.1 Hp.out.2.2.1 (mkR_length _ _) (by rw [mkR_length]; exact ho3) hg3
      have hor2 := Hrows.out.row k _ ys Hp.out.2.2.2.1 Hp.out.2.2.1
      have hout := Hst.out.kept hg3 (apart_row (own_apart_type Hst.out hor2.row (by decide)))
      rw [Hset.out] at hout
      have Hon3 : Hid (Only w w3 lo hi) := Lib.hid (Hon1.out.trans (Only.grown hg3 fun g' hg' => ⟨(hor2.row.lt g' hg').1, hor2.top g' hg'⟩))
      have HM3 : Hid (MkQ w3 lo hi (.slice (some ⟨g, 0, none⟩) ps.length c) ps net (qs.set k (mt (k0 + q), Value.slice U ys.length uc)) (yss.set k (mkR (k0 + q + 1) ys.length))) := Lib.hid ⟨hout, by rw [List.length_set, HM.out.len], fun i => by
          by_cases hi : k = i
          · subst hi
            rw [List.getElem?_set_self (List.getElem?_eq_some_iff.1 Hp.out.1).1, Hp.out.2.1, Option.map_some, Option.map_some, ← Hp.out.2.2.2.2]
          · rw [List.getElem?_set_ne hi]; exact HM.out.val i, hr3, fun i zs o' hz ho' => by
          by_cases hi : k = i
          · subst hi
            rw [List.getElem?_set_self (List.getElem?_eq_some_iff.1 Hp.out.2.2.1).1] at hz
            injection hz with hz
            subst hz
            rw [mkR_length]; exact HM.out.num k ys o' Hp.out.2.2.1 ho'
          · rw [List.getElem?_set_ne hi] at hz; exact HM.out.num i zs o' hz ho', by rw [List.length_set, HM.out.yl]⟩
      clear hr3 hor2 hout ho3 hg3 Hrows Hst Hon1 Hq hc3 hc2 hfz
      go_wp2_with fail
      go_roundw
      case rel => exact ⟨k + 1, q + 1 + 2 * ys.length, by omega, by go_num, by go_num, by omega, Hq2, Hon3, Lib.hid ⟨_, _, HM3.out⟩⟩
      case measure => simp [intOf]; omega
    · have hk' : k = ps.length := by omega
      subst hk'
      have Hqe : Hid (q = cntQ net) := Lib.hid (by rw [Hq.out, cntQ, Hpl.out, List.take_length])
      go_wp2_with fail
      go_ret
      exact ⟨ret_int (by rw [Hqe.out]), trivial, Hon.out⟩

end Go.Proofs.Ythmngaioimohaaa
