
/- Offices as rows of the call's own. -/
import Derived.Test.YthmngaioimohaaaNtO2
namespace Go.Proofs.Ythmngaioimohaaa
open Go.RowKit
set_option linter.unusedVariables false

theorem Rows.mem {β : Type} {e : TypeId} {size : Nat} {num : β → Nat} {cs : β → List Value} {w : World} {lo hi : Nat} {us : List Value} {xss : List β} (h : Rows e size num cs w lo hi us xss) {u : Value} (hu : u ∈ us) : ∃ xs, Own w lo hi e size u (num xs) (cs xs) := by
  obtain ⟨i, hi⟩ := List.getElem?_of_mem hu
  have hl := (List.getElem?_eq_some_iff.1 hi).1
  have hx := List.getElem?_eq_getElem (l := xss) (i := i) (by have := h.len; omega)
  exact ⟨_, h.row i u _ hi hx⟩
theorem Rows.push {β : Type} {e : TypeId} {size : Nat} {num : β → Nat} {cs : β → List Value} {w w' : World} {lo : Nat} {us : List Value} {xss : List β} (h : Rows e size num cs w lo w.heap.size us xss) (hb : Below w.heap.size w w') (hlo : lo ≤ w.heap.size) {u : Value} {xs : β} (ho : Own w' w.heap.size w'.heap.size e size u (num xs) (cs xs)) :
    Rows e size num cs w' lo w'.heap.size (us ++ [u]) (xss ++ [xs]) := by
  refine ((h.below hb).wide (Nat.le_refl _) hb.size).snoc (ho.wide hlo (Nat.le_refl _)) fun v hv => ?_
  obtain ⟨ys, hy⟩ := h.mem hv
  exact hy.gap ho (.inl (Nat.le_refl _))

set_option maxRecDepth 100000 in
set_option maxHeartbeats 800000 in

abbrev RowsR (w : World) (lo hi : Nat) (us : List Value) (yss : List (List Rul)) : Prop := Rows 50 2 (fun ys : List Rul => ys.length) rcs w lo hi us yss
def SameN (ps : List (ByteArray × Value)) (net : List Off) : Prop := ∀ (i : Nat) (p : ByteArray × Value) (o : Off), ps[i]? = some p → net[i]? = some o → p.1 = o.1
def OQ (w : World) (lo hi : Nat) (v : Value) (net : List Off) : Prop := ∃ ps, Own w lo hi 46 2 v ps.length (cs2 otf ps) ∧ RowsR w lo hi (ps.map (·.2)) (net.map (·.2)) ∧ SameN ps net ∧ ps.length = net.length
abbrev IQ := InO
abbrev SzQ := SzO
theorem OQ.in_ {w : World} {lo hi : Nat} {v : Value} {net : List Off} (h : OQ w lo hi v net) : IQ w v net := by
  obtain ⟨ps, h1, h2, h3, h4⟩ := h
  exact ⟨ps, Own.sl h1, h4, fun i p o hp ho => ⟨h3 i p o hp ho, Own.sl (h2.row i p.2 o.2 (by simp [hp]) (by simp [ho]))⟩⟩
theorem OQ.below {w w' : World} {lo hi : Nat} {v : Value} {net : List Off} (h : OQ w lo hi v net) (hb : Below w.heap.size w w') : OQ w' lo hi v net := by
  obtain ⟨ps, h1, h2, h3, h4⟩ := h
  exact ⟨ps, h1.below hb, h2.below hb, h3, h4⟩
theorem OQ.only {w w' : World} {lo hi lo' hi' : Nat} {v : Value} {net : List Off} (h : OQ w lo hi v net) (hb : Only w w' lo' hi') (hd : hi ≤ lo' ∨ hi' ≤ lo) : OQ w' lo hi v net := by
  obtain ⟨ps, h1, h2, h3, h4⟩ := h
  exact ⟨ps, h1.only hb hd, h2.only hb hd, h3, h4⟩

set_option maxRecDepth 100000 in
set_option maxHeartbeats 1600000 in
theorem toQ0_c (v : Value) (net : List Off) (w : World) (h : InO w v net) (hs : SmO net) :
    Calls Try.prog 9 #[v] w fun e w' => ∃ u, e = .returned u ∧ OQ w' w.heap.size w'.heap.size u net ∧ Below w.heap.size w w' := by
  have H := Lib.hid h
  obtain ⟨A, c, rfl, hc1, hc2⟩ := h.form
  have hn := hs.len
  have Hs := Lib.hid hs
  clear h
  obtain ⟨i0, hi, hz0, hz1, hz2⟩ := info_parts off_info
  go_enter Try.func9, Try.ntmps9
  go_wp2_with (at_make; refine wpList_make_full _ rfl _ _ _ rfl w.heap.size 46 i0 _ 2 Try.underlying25 hi hz0 hz1 _ _ _ _ net.length rfl rfl rfl rfl (by rw [hz2]; omega) (by unfold maxLen; omega) (Nat.le_refl _) ?_; intro w1 hown1 hg1)
  have hmade : (madeCells (Value.agg #[.string ⟨#[]⟩, .slice none 0 0]).cells (net.length * 2)).toList = cs2 otf (List.replicate net.length ((⟨#[]⟩ : ByteArray), Value.slice none 0 0)) := made2 otf ((⟨#[]⟩ : ByteArray), Value.slice none 0 0) net.length
  rw [hmade] at hown1
  have hb1 : Below w.heap.size w w1 := (Below.refl _ _).grown hg1 (Nat.le_refl _) (by simp)
  have Hb1 := Lib.hid hb1
  have H0 : Hid (∃ ps, ps.length = 0 ∧ w1.ownsRow w.heap.size 46 2 (.slice (some ⟨w.heap.size, 0, none⟩) net.length net.length) net.length (cs2 otf (padO ps net.length)) ∧ RowsR w1 w.heap.size w1.heap.size (ps.map (·.2)) ((net.take 0).map (·.2)) ∧ SameN ps (net.take 0)) := Lib.hid ⟨[], rfl, by simpa [padO] using hown1, Rows.nil, by intro i p o h; simp at h⟩
  clear hown1 hg1 hmade hb1
  go_loopw [4] (fun i wr => ∃ k : Nat, k ≤ net.length ∧ i = .int .i64 k ∧ Hid (Below w.heap.size w wr) ∧ Hid (∃ ps, ps.length = k ∧ wr.ownsRow w.heap.size 46 2 (.slice (some ⟨w.heap.size, 0, none⟩) net.length net.length) net.length (cs2 otf (padO ps net.length)) ∧ RowsR wr w.heap.size wr.heap.size (ps.map (·.2)) ((net.take k).map (·.2)) ∧ SameN ps (net.take k))) (fun i _ => net.length - (intOf i).toNat)
  case atStart => exact ⟨0, Nat.zero_le _, rfl, Hb1, H0⟩
  case round =>
    obtain ⟨k, hk, rfl, Hb, Hps⟩ := hrel
    clear H0 Hb1
    by_cases hlt : k < net.length
    · obtain ⟨ad, o, u, rfl, ho, hcA, hcB, hru⟩ := (H.out.below Hb.out).at_ hlt
      obtain ⟨UA, uc, rfl, hu1, hu2, hu3⟩ := hru
      have hsm : o.2.length ≤ 1048576 := Hs.out.each o (List.mem_of_getElem? ho)
      have HT := Lib.hid (toOffice_any o.1 (.slice UA o.2.length uc) o.2 wr ⟨UA, uc, rfl, hu1, hu2, hu3⟩ hsm)
      have Ho := Lib.hid ho
      clear ho hu1 hsm
      go_wp2_with fail
      refine HT.out.mono ?_
      rintro e w2 ⟨z, rfl, hz, hb2⟩
      obtain ⟨ps, hpl, hown, hrd, hnm⟩ := Hps.out
      have hown0 := hown
      have hrows2 := hrd.push hb2 Hb.out.size hz
      obtain ⟨ZA, zc, rfl, _, _, _, _⟩ := own_form hz.row
      have Hz := Lib.hid hz
      replace hown := own_below hown hb2
      have Hb2 := Lib.hid (below_trans' Hb.out hb2)
      have hpk : ps.length < net.length := by omega
      obtain ⟨hg0, hg1⟩ := cs2_get (f := otf) (padO_at hpk)
      rw [hpl] at hg0 hg1
      have hc2' : w2.cell? ⟨w.heap.size, k * 2, none⟩ = some (.string ⟨#[]⟩) := (hown.cellAt _ (by omega)).trans hg0
      have hc3' : w2.cell? ⟨w.heap.size, k * 2 + 1, none⟩ = some (.slice none 0 0) := (hown.cellAt _ (by omega)).trans hg1
      have hfz : w2.frozen? ⟨w.heap.size, k * 2, none⟩ = false := hown.frozenAt _
      have hfz2 : w2.frozen? ⟨w.heap.size, k * 2 + 1, none⟩ = false := hown.frozenAt _
      have st1 := hown.stored (k * 2) (.string o.1)
      have st2 := st1.1.stored (k * 2 + 1) (.slice ZA o.2.length zc)
      have rows1 := hrows2.kept st1.2 (fun v hv => by
        obtain ⟨ys, hy⟩ := hrows2.mem hv
        exact apart_row (own_apart_type hy.row hown (by decide)))
      have rows2 := rows1.kept st2.2 (fun v hv => by
        obtain ⟨ys, hy⟩ := rows1.mem hv
        exact apart_row (own_apart_type hy.row st1.1 (by decide)))
      have hst := st2.1
      have hset := cs2_set (f := otf) (padO ps net.length) k (o.1, Value.slice ZA o.2.length zc)
      simp only [otf] at hset
      have hset2 := padO_set (n := net.length) (o.1, Value.slice ZA o.2.length zc) hpk
      rw [hpl] at hset2
      rw [hset, hset2] at hst
      have hwl : w.heap.size < wr.heap.size := Nat.lt_of_lt_of_le (hown0.lt _ rfl).2 (Nat.le_refl _)
      have Hst := Lib.hid hst
      have Hrd : Hid (RowsR ((w2.setCell ⟨w.heap.size, k * 2, none⟩ (.string o.1)).setCell ⟨w.heap.size, k * 2 + 1, none⟩ (.slice ZA o.2.length zc)) w.heap.size ((w2.setCell ⟨w.heap.size, k * 2, none⟩ (.string o.1)).setCell ⟨w.heap.size, k * 2 + 1, none⟩ (.slice ZA o.2.length zc)).heap.size ((ps ++ [(o.1, Value.slice ZA o.2.length zc)]).map (·.2)) ((net.take (k + 1)).map (·.2)) ∧ SameN (ps ++ [(o.1, Value.slice ZA o.2.length zc)]) (net.take (k + 1))) := Lib.hid (by
        rw [take_snoc Ho.out, List.map_append, List.map_append, World.size_setCell, World.size_setCell]
        refine ⟨rows2, fun i p q hp hq => ?_⟩
        have hll : ps.length = (net.take k).length := by rw [hpl, List.length_take]; omega
        rcases snoc_both hll hp hq with ⟨a, b⟩ | ⟨rfl, rfl⟩
        · exact hnm i p q a b
        · rfl)
      have hb4 : Below w.heap.size w ((w2.setCell ⟨w.heap.size, k * 2, none⟩ (.string o.1)).setCell ⟨w.heap.size, k * 2 + 1, none⟩ (.slice ZA o.2.length zc)) := (Hb2.out.setCell (Nat.le_refl _) _).setCell (Nat.le_refl _) _
      have Hb4 := Lib.hid hb4
      have Hpl : Hid ((ps ++ [(o.1, Value.slice ZA o.2.length zc)]).length = k + 1) := Lib.hid (by simp [hpl])
      clear hst hset hset2 st2 st1 rows1 rows2 hrows2 hown hrd hnm hz hb2 hb4 hg0 hg1 hown0
      go_wp2_with fail
      go_roundw
      case rel => exact ⟨k + 1, by omega, by go_num, Hb4, Lib.hid ⟨_, Hpl.out, Hst.out, Hrd.out⟩⟩
      case measure => simp [intOf]; omega
    · have hk' : k = net.length := by omega
      subst hk'
      obtain ⟨ps, hpl, hown, hrd, hnm⟩ := Hps.out
      have hpo : padO ps net.length = ps := by rw [← hpl]; exact padO_full
      rw [hpo] at hown
      have hr := And.intro hrd hnm
      rw [List.take_length] at hr
      have Hr := Lib.hid (And.intro hown hr)
      have Hpl := Lib.hid hpl
      clear hown hr hrd hnm hpo hpl
      go_wp2_with fail
      go_ret
      exact ⟨_, rfl, ⟨ps, by rw [Hpl.out]; exact own_of Hr.out.1, Hr.out.2.1, Hr.out.2.2, Hpl.out⟩, Hb.out⟩

end Go.Proofs.Ythmngaioimohaaa
