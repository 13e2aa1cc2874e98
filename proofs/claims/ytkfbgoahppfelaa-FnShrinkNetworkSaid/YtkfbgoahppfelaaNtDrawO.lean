
/- The walks of what spoils networks, and of the draws of the laws on paths. -/
import Derived.Test.YtkfbgoahppfelaaNtDrawN
namespace Go.Proofs.Ytkfbgoahppfelaa
open Go.RowKit
set_option linter.unusedVariables false

theorem ocs_set1 {ps : List (ByteArray × Value)} {k : Nat} {x : ByteArray × Value} (h : ps[k]? = some x) (s : ByteArray) : (cs2 otf ps).set (k * 2) (.string s) = cs2 otf (ps.set k (s, x.2)) := by
  obtain ⟨h0, h1⟩ := cs2_get (f := otf) h
  rw [← cs2_set]
  apply List.ext_getElem?
  intro j
  by_cases hj : k * 2 + 1 = j
  · subst hj
    rw [List.getElem?_set_ne (by omega), List.getElem?_set_self (by rw [List.length_set]; exact (List.getElem?_eq_some_iff.1 h1).1), h1]
    rfl
  · rw [List.getElem?_set_ne hj]; rfl
theorem ocs_set2 {ps : List (ByteArray × Value)} {k : Nat} {x : ByteArray × Value} (h : ps[k]? = some x) (u : Value) : (cs2 otf ps).set (k * 2 + 1) u = cs2 otf (ps.set k (x.1, u)) := by
  obtain ⟨h0, h1⟩ := cs2_get (f := otf) h
  rw [← cs2_set]
  apply List.ext_getElem?
  intro j
  by_cases hj : k * 2 + 1 = j
  · subst hj
    have hl := (List.getElem?_eq_some_iff.1 h1).1
    rw [List.getElem?_set_self hl, List.getElem?_set_self (by rw [List.length_set]; exact hl)]
    rfl
  · rw [List.getElem?_set_ne hj, List.getElem?_set_ne hj]
    by_cases hj2 : k * 2 = j
    · subst hj2
      rw [List.getElem?_set_self (List.getElem?_eq_some_iff.1 h0).1, h0]
      rfl
    · rw [List.getElem?_set_ne hj2]
/-- One office changed. -/
theorem ONp.change {w w' : World} {B k : Nat} {v u : Value} {ps : List (ByteArray × Value)} {net : List Off} {s : ByteArray} {ys : List Rul} (h : ONp w B v ps net) (hg : w.grownBy w' v.ownBlock) (ho : w'.ownsRow B 56 2 v ps.length (cs2 otf (ps.set k (s, u)))) (hr : w.ownsRow B 31 2 u ys.length (rcs ys)) : ONp w' B v (ps.set k (s, u)) (net.set k (s, ys)) := by
  refine ⟨by rw [List.length_set]; exact ho, by simp [h.len], fun i p o hp ho2 => ?_⟩
  by_cases hik : i = k
  · subst hik
    have l1 := (List.getElem?_eq_some_iff.1 hp).1
    have l2 := (List.getElem?_eq_some_iff.1 ho2).1
    simp at l1 l2
    rw [List.getElem?_set_self l1] at hp
    rw [List.getElem?_set_self l2] at ho2
    injection hp with hp
    injection ho2 with ho2
    subst hp ho2
    exact ⟨rfl, h.rows hg hr⟩
  · rw [List.getElem?_set_ne (fun e => hik e.symm)] at hp ho2
    exact ⟨(h.row i p o hp ho2).1, h.rows hg (h.row i p o hp ho2).2⟩
theorem own_none {w : World} {B n c : Nat} {e : TypeId} {size : Nat} {A : Option Addr} {cs : List Value} (h : w.ownsRow B e size (.slice A n c) n cs) : w.ownsRow B e size (.slice A 0 c) 0 [] := by
  refine ⟨by simp, ?_⟩
  rcases h.2 with ⟨hv, hn⟩ | ⟨g, cap, cur, hv, hb, hh, h1, h2, h3, h4⟩
  · injection hv with e1 e2 e3
    subst e1 e3
    exact .inl ⟨rfl, rfl⟩
  · injection hv with e1 e2 e3
    subst e1 e3
    exact .inr ⟨g, c, cur, rfl, hb, hh, Nat.zero_le _, h2, h3, by simp⟩
theorem dst_store {w0 w w' : World} {R p g : Nat} (h : Dst w0 R p w) (hR : R < w0.heap.size) (hg : w.grownBy w' (some g)) (hb : w0.heap.size ≤ g) : Dst w0 R p w' := h.own hR hg (fun g' e => by injection e with e; subst e; exact hb)

set_option maxRecDepth 100000 in
set_option maxHeartbeats 3200000 in
theorem badnet_any (w0 : World) (R p p0 : Nat) (v : Value) (net : List Off) (w : World) (hd : Dst w0 R p w) (hR : R < w0.heap.size) (ho : ON w w0.heap.size v net) (hl1 : 1 ≤ net.length) (hl : net.length ≤ 8) (hs : SmN net) (hs20 : ∀ o ∈ net, o.2.length ≤ 19) (hp : p ≤ 137438953472) :
    Calls Try.prog 66 #[.pointer (some ⟨R, 0, none⟩), v] w fun e w' => ∃ (u : Value) (net2 : List Off) (q : Nat), e = .returned u ∧ ON w' w0.heap.size u net2 ∧ net2.length ≤ 8 ∧ SmN net2 ∧ q ≤ p + 20 ∧ Dst w0 R q w' := by
  obtain ⟨ps, hps⟩ := ho
  have hpl := hps.len
  obtain ⟨A, c, rfl, _, _, _, _⟩ := own_form hps.own
  have Hps := Lib.hid hps
  have Hs := Lib.hid hs
  have Hs20 := Lib.hid hs20
  have Hpl := Lib.hid hpl
  have hpl1 : 1 ≤ ps.length := by omega
  have hpl8 : ps.length ≤ 8 := by omega
  have H1 := Lib.hid (pick_any R p ps.length w hd.reader (by omega) (by omega))
  have Hd := Lib.hid hd
  have hsz := hd.size
  clear hps hs hs20 hpl hl1 hl hd
  go_enter Try.func66, Try.ntmps66
  go_wp2_with fail
  refine H1.out.mono ?_
  rintro e w1 ⟨a, rfl, ha, hr1, hg1⟩
  obtain ⟨k, rfl, hk⟩ := nat_of (ha.pos (by omega))
  have Hd1 := Lib.hid (Hd.out.step hg1 hr1)
  have Hp1 := Lib.hid (Hps.out.past hR hg1)
  have H2 := Lib.hid (pick_any R (p + 1) 30 w1 hr1 (by omega) (by omega))
  clear ha hr1 hg1 H1 Hd Hps hsz
  go_wp2_with fail
  refine H2.out.mono ?_
  rintro e w2 ⟨a2, rfl, ha2, hr2, hg2⟩
  obtain ⟨m, rfl, hm⟩ := nat_of (ha2.pos (by omega))
  have Hd2 := Lib.hid (Hd1.out.step hg2 hr2)
  have Hp2 := Lib.hid (Hp1.out.past hR hg2)
  have Hr2 := Lib.hid hr2
  clear ha2 hr2 hg2 H2 Hd1 Hp1
  have hkl : k < ps.length := by omega
  obtain ⟨x, hxk⟩ : ∃ x, ps[k]? = some x := ⟨_, List.getElem?_eq_getElem hkl⟩
  obtain ⟨o, hok⟩ : ∃ o, net[k]? = some o := ⟨_, List.getElem?_eq_getElem (by have := Hpl.out; omega)⟩
  obtain ⟨g, rfl⟩ := own_some' Hp2.out.own (by omega)
  have Hxk := Lib.hid hxk
  have Hok := Lib.hid hok
  have Hxo := Lib.hid (Hp2.out.row k x o hxk hok)
  have Hos := Lib.hid (Hs.out o (List.mem_of_getElem? hok))
  have Hgl : Hid (w0.heap.size ≤ g) := Lib.hid (Hp2.out.own.lt g rfl).1
  clear hxk hok
  by_cases h0 : m = 0
  · subst h0
    have H3 := Lib.hid (of_lit R (p + 1 + 1) w2.heap.size 5 #[.string ⟨#[]⟩, .string ⟨#[65]⟩, .string ⟨#[104, 101, 114, 101]⟩, .string ⟨#[97]⟩, .string ⟨#[122]⟩] [⟨#[]⟩, ⟨#[65]⟩, ⟨#[104, 101, 114, 101]⟩, ⟨#[97]⟩, ⟨#[122]⟩] w2 Hr2.out (by omega) rfl rfl rfl (by simp) (by simp))
    go_wp2_with fail
    refine H3.out.mono ?_
    rintro e w3 ⟨s', rfl, hs', hr3, hg3⟩
    have hs9 : s'.size ≤ 100 := by
      simp at hs'
      rcases hs' with rfl | rfl | rfl | rfl | rfl
      · show (0 : Nat) ≤ 100; omega
      · show (1 : Nat) ≤ 100; omega
      · show (4 : Nat) ≤ 100; omega
      · show (1 : Nat) ≤ 100; omega
      · show (1 : Nat) ≤ 100; omega
    have Hd3 := Lib.hid (Hd2.out.step hg3 hr3)
    have Hp3 := Lib.hid (Hp2.out.past hR hg3)
    have hcB3 : w3.cell? ⟨g, k * 2, none⟩ = some (.string x.1) := (Hp3.out.own.cellAt _ (by omega)).trans (cs2_get (f := otf) Hxk.out).1
    have hfz3 : w3.frozen? ⟨g, k * 2, none⟩ = false := Hp3.out.own.frozenAt _
    have hst := Hp3.out.own.stored (k * 2) (.string s')
    rw [ocs_set1 Hxk.out] at hst
    have Hst := Lib.hid hst
    have Hr3 := Lib.hid (Hp3.out.row k x o Hxk.out Hok.out).2
    clear hst hr3 hg3 H3 Hp2 Hd2 hs'
    go_wp2_with fail
    go_ret
    have hgr := Hst.out.2
    have hz := Hp3.out.change hgr Hst.out.1 Hr3.out
    exact ⟨_, net.set k (s', o.2), _, rfl, ⟨_, hz⟩, by rw [List.length_set]; have := Hpl.out; omega, Hs.out.set ⟨hs9, Hos.out.2⟩, by omega, dst_store Hd3.out hR (by simpa [Value.ownBlock] using hgr) Hgl.out⟩
  have e0 : ((m : Int) == 0) = false := by simp only [beq_eq_false_iff_ne]; omega
  by_cases h1 : m = 1
  · subst h1
    obtain ⟨X1, X2⟩ := x
    obtain ⟨XA, xc, hX2, _, _, hXr, hXb⟩ := own_form Hxo.out.2
    have hX2' : X2 = .slice XA o.2.length xc := hX2
    subst hX2'
    have hcB2 : w2.cell? ⟨g, k * 2 + 1, none⟩ = some (.slice XA o.2.length xc) := (Hp2.out.own.cellAt _ (by omega)).trans (cs2_get (f := otf) Hxk.out).2
    have hol : o.2.length ≤ 19 := Hs20.out o (List.mem_of_getElem? Hok.out)
    obtain ⟨wn, hwn⟩ : ∃ wn, wn = w2.alloc (.cells #[.string ⟨#[57]⟩, .string ⟨#[122]⟩] 31) := ⟨_, rfl⟩
    have hbl : Below w2.heap.size w2 wn := by rw [hwn]; exact (Below.refl _ _).alloc (Nat.le_refl _) _
    have Hoa : Hid (wn.ownsRow w2.heap.size 31 2 (.slice (some ⟨w2.heap.size, 0, none⟩) 1 1) 1 (rcs [((⟨#[57]⟩ : ByteArray), (⟨#[122]⟩ : ByteArray))])) := Lib.hid (by rw [hwn]; exact World.ownsRow_lit w2 #[.string ⟨#[57]⟩, .string ⟨#[122]⟩] 1 (Nat.le_refl _) (by unfold maxLen; omega) rfl)
    have hXn : Rd wn XA (rcs o.2) := hXr.below hbl
    have HXn := Lib.hid hXn
    have hcBn := cell_later hbl hcB2
    have hcBa : (w2.alloc (.cells #[.string ⟨#[57]⟩, .string ⟨#[122]⟩] 31)).cell? ⟨g, k * 2 + 1, none⟩ = some (.slice XA o.2.length xc) := by rw [← hwn]; exact hcBn
    have Hbl := Lib.hid hbl
    obtain ⟨zs, hzs⟩ : ∃ zs, zs = [((⟨#[57]⟩ : ByteArray), (⟨#[122]⟩ : ByteArray))] ++ o.2 := ⟨_, rfl⟩
    have hzl : zs.length = 1 + o.2.length := by rw [hzs, List.length_append]; rfl
    have Hzl := Lib.hid hzl
    have Hzs : Hid (SmT 100 zs) := Lib.hid (by
      rw [hzs]
      intro y hy
      rcases List.mem_append.1 hy with h | h
      · simp at h; subst h; exact ⟨by show (1 : Nat) ≤ 100; omega, by show (1 : Nat) ≤ 100; omega⟩
      · exact Hos.out.2.1 y h)
    have Hze : Hid (rcs zs = rcs [((⟨#[57]⟩ : ByteArray), (⟨#[122]⟩ : ByteArray))] ++ rcs o.2) := Lib.hid (by rw [hzs]; exact cs2_append _ _)
    clear hbl hXn hXr hXb hX2 hzs hzl
    go_wp2_with (at_builtin; simp only [← hwn]; refine wpList_append_rd rfl (.tmp 27) (.tmp 32) 23 rfl rul_elem (base := w2.heap.size) (.slice (some ⟨w2.heap.size, 0, none⟩) 1 1) 1 (rcs [((⟨#[57]⟩ : ByteArray), (⟨#[122]⟩ : ByteArray))]) rfl Hoa.out XA o.2.length xc (rcs o.2) rfl (cs2_length _) HXn.out (rcs_oneCell _) (by unfold maxLen; omega) (by omega) Hbl.out.size ?_; intro v4 w4 hown4 hg4 hm4; rw [← Hzl.out, ← Hze.out] at hown4)
    have Hb24 : Hid (Below w2.heap.size w2 w4) := Lib.hid (Hbl.out.grown hg4 Hbl.out.size (fun g e => (Hoa.out.lt g e).1))
    have Hd4 := Lib.hid (Hd2.out.below Hb24.out)
    have Hp4 := Lib.hid (Hp2.out.below Hb24.out)
    have Hsz2 : Hid (w0.heap.size ≤ w2.heap.size) := Lib.hid Hd2.out.size
    have Hglt : Hid (g < w2.heap.size) := Lib.hid (Hp2.out.own.lt g rfl).2
    have H5 := Lib.hid (bad6_any R (p + 1 + 1) w2.heap.size v4 zs w4 Hd4.out.reader (by have := Hsz2.out; omega) Hb24.out.size hown4 (by have := Hzl.out; omega) Hzs.out (by omega))
    have Hv4 : Hid (∀ g', v4.ownBlock = some g' → w2.heap.size ≤ g') := Lib.hid fun g' e => (hown4.lt g' e).1
    clear hown4 hg4 hm4 Hoa HXn Hbl hcBn hcBa hcB2 Hb24 Hd2 hwn
    go_wp2_with fail
    refine H5.out.mono ?_
    rintro e w5 ⟨u, ys, q, rfl, hou, hyl, hys, hq, hr5, hc5⟩
    have Hd5 := Lib.hid (hc5.dst Hd4.out (fun g' e => by have := Hv4.out g' e; have := Hsz2.out; omega) hr5)
    have ho5 := hc5.own Hp4.out.own hR (fun g' e e2 => by have h1 := Hv4.out g' e2.symm; have h2 := Hglt.out; simp [Value.ownBlock] at e; omega)
    have hrows : ∀ (i : Nat) (p : ByteArray × Value) (o : Off), ps[i]? = some p → net[i]? = some o → p.1 = o.1 ∧ w5.ownsRow w0.heap.size 31 2 p.2 o.2.length (rcs o.2) := fun i pp oo h1 h2 => ⟨(Hp4.out.row i pp oo h1 h2).1, hc5.own (Hp4.out.row i pp oo h1 h2).2 hR (fun g' e e2 => by
      have h3 := Hv4.out g' e2.symm
      have h4 := ((Hp2.out.row i pp oo h1 h2).2.lt g' e).2
      omega)⟩
    have Hp5 : Hid (ONp w5 w0.heap.size (.slice (some ⟨g, 0, none⟩) ps.length c) ps net) := Lib.hid ⟨ho5, Hpl.out, hrows⟩
    have hcB5 : w5.cell? ⟨g, k * 2 + 1, none⟩ = some (.slice XA o.2.length xc) := (ho5.cellAt _ (by omega)).trans (cs2_get (f := otf) Hxk.out).2
    have hfz5 : w5.frozen? ⟨g, k * 2 + 1, none⟩ = false := ho5.frozenAt _
    obtain ⟨UA, uc, rfl, _, _, _, _⟩ := own_form hou
    have hst := ho5.stored (k * 2 + 1) (.slice UA ys.length uc)
    rw [ocs_set2 Hxk.out] at hst
    have Hst := Lib.hid hst
    have Hou := Lib.hid (own_base hou Hsz2.out)
    have Hq := Lib.hid (And.intro hyl (And.intro hys hq))
    clear hst hou hr5 hc5 ho5 hrows H5 Hd4 Hp4 Hp2 hyl hys hq
    go_wp2_with fail
    go_ret
    have hgr := Hst.out.2
    have hz := Hp5.out.change hgr Hst.out.1 Hou.out
    have hx1 : X1.size ≤ 100 := by have h : X1 = o.1 := Hxo.out.1; rw [h]; exact Hos.out.1
    exact ⟨_, net.set k (X1, ys), _, rfl, ⟨_, hz⟩, by rw [List.length_set]; have := Hpl.out; omega, Hs.out.set ⟨hx1, Hq.out.2.1, Hq.out.1⟩, by have := Hq.out.2.2; omega, dst_store Hd5.out hR (by simpa [Value.ownBlock] using hgr) Hgl.out⟩
  have e1 : ((m : Int) == 1) = false := by simp only [beq_eq_false_iff_ne]; omega
  by_cases h2 : m = 2
  · subst h2
    have Hon := Lib.hid (own_none Hp2.out.own)
    go_wp2_with fail
    go_ret
    exact ⟨_, [], _, rfl, ⟨[], Hon.out, rfl, by intro i p o h; simp at h⟩, Nat.zero_le _, by intro o ho; simp at ho, by omega, Hd2.out⟩
  have e2 : ((m : Int) == 2) = false := by simp only [beq_eq_false_iff_ne]; omega
  go_wp2_with fail
  go_ret
  exact ⟨_, net, _, rfl, ⟨_, Hp2.out⟩, by have := Hpl.out; omega, Hs.out, by omega, Hd2.out⟩

set_option maxRecDepth 100000 in
set_option maxHeartbeats 1600000 in
theorem draw_route (A : Option Addr) (c : Nat) (bs : List Int) (w : World) (h : Coded w A bs c) :
    Calls Try.prog 33 #[.slice A bs.length c] w fun e w' => ∃ (v : Value) (net : List Off) (s t : ByteArray), e = .returned (.tuple #[v, .string s, .string t]) ∧ InO w' v net ∧ SmN net ∧ net.length ≤ 8 ∧ s.size ≤ 100 ∧ t.size ≤ 101 ∧ Below w.heap.size w w' := by
  have HC := Lib.hid (coded_open h)
  clear h
  go_enter Try.func33, Try.ntmps33
  go_wp2_with fail
  refine HC.out.mono ?_
  rintro e w1 ⟨rfl, hr, hb, hl⟩
  have Hb := Lib.hid hb
  have Hl := Lib.hid hl
  have H1 := Lib.hid (net_any w.heap.size 0 w1 hr (by omega))
  clear hr hb hl HC
  go_wp2_with fail
  refine H1.out.mono ?_
  rintro e w2 ⟨v, net, q, rfl, ho, hl1, hl4, hs, hq, hd2⟩
  have H2 := Lib.hid (badnet_any w1 w.heap.size q 0 v net w2 hd2 Hl.out ho.1 hl1 (by omega) hs ho.2 (by omega))
  clear ho hs hd2 H1
  go_wp2_with fail
  refine H2.out.mono ?_
  rintro e w3 ⟨u, net2, q3, rfl, ho3, hl3, hs3, hq3, hd3⟩
  have Hd3 := Lib.hid hd3
  have HO3 := Lib.hid ho3
  have Hs3 := Lib.hid hs3
  have H3 := Lib.hid (of_lit w.heap.size q3 w3.heap.size 6 #[.string ⟨#[97]⟩, .string ⟨#[97]⟩, .string ⟨#[98]⟩, .string ⟨#[97]⟩, .string ⟨#[99]⟩, .string ⟨#[122]⟩] [⟨#[97]⟩, ⟨#[97]⟩, ⟨#[98]⟩, ⟨#[97]⟩, ⟨#[99]⟩, ⟨#[122]⟩] w3 hd3.reader (by omega) rfl rfl rfl (by simp) (by simp))
  clear ho3 hs3 hd3 H2
  go_wp2_with fail
  refine H3.out.mono ?_
  rintro e w4 ⟨s, rfl, hs, hr4, hg4⟩
  have Hd4 := Lib.hid (Hd3.out.step hg4 hr4)
  have HO4 := Lib.hid (HO3.out.past Hl.out hg4)
  have Hsz : Hid (s.size ≤ 100) := Lib.hid (by
    simp only [List.mem_cons, List.not_mem_nil, or_false] at hs
    rcases hs with rfl | rfl | rfl | rfl | rfl | rfl <;> (show (1 : Nat) ≤ 100; omega))
  have H5 := Lib.hid (head_any w.heap.size (q3 + 1) w4 hr4 (by omega))
  clear hs hr4 hg4 H3 Hd3 HO3
  go_wp2_with fail
  refine H5.out.mono ?_
  rintro e w5 ⟨t, rfl, ht, hd5⟩
  have Hd5 := Lib.hid (Hd4.out.step hd5.grown hd5.reader)
  have HO5 := Lib.hid (HO4.out.past Hl.out hd5.grown)
  have H6 := Lib.hid (badcode_any w.heap.size (q3 + 1 + 3) t w5 hd5.reader (by omega) (by omega) (by omega))
  clear hd5 H5 Hd4 HO4
  go_wp2_with fail
  refine H6.out.mono ?_
  rintro e w6 ⟨t2, rfl, ht2, hd6⟩
  have Hd6 := Lib.hid (Hd5.out.step hd6.grown hd6.reader)
  have HO6 := Lib.hid (HO5.out.past Hl.out hd6.grown)
  clear hd6 H6 Hd5 HO5
  go_wp2_with fail
  go_ret3
  exact ⟨_, net2, s, t2, rfl, HO6.out.io, Hs3.out, hl3, Hsz.out, ht2, dst_below Hb.out Hl.out Hd6.out⟩

end Go.Proofs.Ytkfbgoahppfelaa
