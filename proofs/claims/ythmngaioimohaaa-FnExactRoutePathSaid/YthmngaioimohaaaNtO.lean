
/- Offices in memory; the walks of the small functions on them. -/
import Derived.Test.YthmngaioimohaaaNtC
import Derived.Deep.WholeRow
namespace Go.Proofs.Ythmngaioimohaaa
open Go.RowKit
set_option linter.unusedVariables false

def otf (p : ByteArray × Value) : Value × Value := (.string p.1, p.2)
/-- Offices that read: names and slices of rules. -/
structure OffRd (w : World) (ps : List (ByteArray × Value)) (net : List Off) : Prop where
  len : ps.length = net.length
  row : ∀ (i : Nat) (p : ByteArray × Value) (o : Off), ps[i]? = some p → net[i]? = some o → p.1 = o.1 ∧ Rt w p.2 o.2
def InO (w : World) (v : Value) (net : List Off) : Prop := ∃ ps, Sl w v ps.length (cs2 otf ps) ∧ OffRd w ps net
theorem InO.below {w w' : World} {v : Value} {net : List Off} (h : InO w v net) (hb : Below w.heap.size w w') : InO w' v net := by
  obtain ⟨ps, h1, h2⟩ := h
  exact ⟨ps, h1.below hb, h2.len, fun i p o a b => ⟨(h2.row i p o a b).1, (h2.row i p o a b).2.below hb⟩⟩
theorem InO.form {w : World} {v : Value} {net : List Off} (h : InO w v net) : ∃ A c, v = .slice A net.length c ∧ net.length ≤ c ∧ c ≤ maxLen := by
  obtain ⟨ps, ⟨A, c, rfl, _, h1, h2⟩, h3⟩ := h
  exact ⟨A, c, by rw [h3.len], by rw [← h3.len]; exact h1, h2⟩
theorem InO.at_ {w : World} {A : Option Addr} {n c : Nat} {net : List Off} (h : InO w (.slice A n c) net) {k : Nat} (hk : k < net.length) :
    ∃ ad o u, A = some ad ∧ net[k]? = some o ∧ w.cell? (ad.add (k * 2)) = some (.string o.1) ∧ w.cell? ⟨(ad.add (k * 2)).block, (ad.add (k * 2)).off + 1, none⟩ = some u ∧ Rt w u o.2 := by
  obtain ⟨ps, ⟨A', c', e, hA, _, _⟩, h3⟩ := h
  injection e with e1 e2 e3
  subst e1
  obtain ⟨ad, p, e4, hp, hcA, hcB⟩ := hA.two (k := k) (by rw [h3.len]; exact hk)
  have ho := List.getElem?_eq_getElem hk
  obtain ⟨h5, h6⟩ := h3.row k p _ hp ho
  exact ⟨ad, _, p.2, e4, ho, by rw [← h5]; exact hcA, hcB, h6⟩
def OO (w : World) (lo hi : Nat) (v : Value) (xs : List Off) : Prop := InO w v xs
theorem OO.in_ {w : World} {lo hi : Nat} {v : Value} {xs : List Off} (h : OO w lo hi v xs) : InO w v xs := h
theorem OO.below {w w' : World} {lo hi : Nat} {v : Value} {xs : List Off} (h : OO w lo hi v xs) (hb : Below w.heap.size w w') : OO w' lo hi v xs := InO.below h hb
def SzO (net : List Off) : Prop := ∀ o ∈ net, o.1.size ≤ maxLen ∧ Szr o.2
structure SmO (net : List Off) : Prop where
  len : net.length ≤ 1048576
  each : ∀ o ∈ net, o.2.length ≤ 1048576
theorem heap_alloc_first (w : World) (o : Obj) (k : Nat) (hk : k < w.heap.size) : (w.alloc o).heap[k]? = w.heap[k]? := ((Below.refl w.heap.size w).alloc (Nat.le_refl _) o).block k hk
theorem set_grown (w : World) (a : Addr) (v : Value) : w.grownBy (w.setCell a v) (some a.block) := ⟨rfl, rfl, rfl, by simp, fun k _ hk => heap_setCell_other w a k _ (fun e => hk (by simp [e]))⟩
theorem OR.set {w : World} {lo hi : Nat} {v : Value} {xs : List Rul} {a : Addr} {x : Value} (h : OR w lo hi v xs) (ha : a.block < lo) : OR (w.setCell a x) lo hi v xs := by
  refine ⟨h.row.kept (set_grown w a x) ?_, h.top⟩
  cases hv : v.ownBlock with
  | none => exact .inl rfl
  | some g => right; intro e; injection e with e; have := (h.row.lt g hv).1; omega
theorem cell_other {w : World} {g i g' i' : Nat} {v : Value} (h : g ≠ g' ∨ i ≠ i') : (w.setCell ⟨g, i, none⟩ v).cell? ⟨g', i', none⟩ = w.cell? ⟨g', i', none⟩ :=
  World.cell?_setCell_other _ _ _ _ (fun e => by injection e with e1 e2; omega)
theorem cell_set2 {w : World} {g : Nat} {a b x y : Value} (h0 : w.cell? ⟨g, 0, none⟩ = some x) (h1 : w.cell? ⟨g, 1, none⟩ = some y) :
    ((w.setCell ⟨g, 0, none⟩ a).setCell ⟨g, 1, none⟩ b).cell? ⟨g, 0, none⟩ = some a ∧ ((w.setCell ⟨g, 0, none⟩ a).setCell ⟨g, 1, none⟩ b).cell? ⟨g, 1, none⟩ = some b := by
  constructor
  · exact (cell_other (.inr (by decide))).trans (World.cell?_setCell_same' _ _ _ (by rw [h0]; rfl))
  · exact World.cell?_setCell_same' _ _ _ (by rw [cell_other (.inr (by decide)), h1]; rfl)
theorem snoc_both {α β : Type} {l : List α} {m : List β} (h : l.length = m.length) {x p : α} {y q : β} {i : Nat} (h1 : (l ++ [x])[i]? = some p) (h2 : (m ++ [y])[i]? = some q) : (l[i]? = some p ∧ m[i]? = some q) ∨ (x = p ∧ y = q) := by
  rcases Nat.lt_or_ge i l.length with hi | hi
  · rw [List.getElem?_append_left hi] at h1
    rw [List.getElem?_append_left (by omega)] at h2
    exact .inl ⟨h1, h2⟩
  · have := (List.getElem?_eq_some_iff.1 h1).1
    simp at this
    have e : i = l.length := by omega
    subst e
    simp at h1
    rw [h] at h2
    simp at h2
    exact .inr ⟨h1, h2⟩
theorem off_info : (Try.prog.info? 46).map (fun i => (i.zero, i.size, i.bytes)) = some (some (.agg #[.string ⟨#[]⟩, .slice none 0 0]), 2, 40) := by kernel_rfl

set_option maxRecDepth 100000 in
set_option maxHeartbeats 800000 in
theorem toOffice_any (s : ByteArray) (v : Value) (rs : List Rul) (w : World) (h : Rt w v rs) (hn : rs.length ≤ 1048576) :
    Calls Try.prog 27 #[.agg #[.string s, v]] w fun e w' => ∃ u, e = .returned (.agg #[.string s, u]) ∧ OR w' w.heap.size w'.heap.size u rs ∧ Below w.heap.size w w' := by
  obtain ⟨A, c, rfl, hA, hc1, hc2⟩ := h
  have H := Lib.hid (show Rt w (.slice A rs.length c) rs from ⟨A, c, rfl, hA, hc1, hc2⟩)
  clear hA
  go_enter Try.func27, Try.ntmps27
  go_wp2_with fail
  have hW := heap_alloc_last (((w.alloc (.cells #[.string s, .slice A rs.length c] 42)).alloc (.cells #[.string ⟨#[]⟩, .slice none 0 0] 46))) (.cells #[.string s, .slice none 0 0] 46)
  have hV := heap_alloc_last (w.alloc (.cells #[.string s, .slice A rs.length c] 42)) (.cells #[.string ⟨#[]⟩, .slice none 0 0] 46)
  have hb0 : Below w.heap.size w (((w.alloc (.cells #[.string s, .slice A rs.length c] 42)).alloc (.cells #[.string ⟨#[]⟩, .slice none 0 0] 46)).alloc (.cells #[.string s, .slice none 0 0] 46)) := (((Below.refl _ _).alloc (Nat.le_refl _) _).alloc (by simp) _).alloc (by simp; omega) _
  have hV2 := (heap_alloc_first ((w.alloc (.cells #[.string s, .slice A rs.length c] 42)).alloc (.cells #[.string ⟨#[]⟩, .slice none 0 0] 46)) (.cells #[.string s, .slice none 0 0] 46) (w.alloc (.cells #[.string s, .slice A rs.length c] 42)).heap.size (by simp)).trans hV
  have HW := Lib.hid hW
  have HV := Lib.hid hV2
  have Hb0 := Lib.hid hb0
  clear hW hV hV2 hb0
  refine (toR _ rs _ (H.out.below Hb0.out) hn).mono ?_
  rintro e w2 ⟨u, rfl, hu, hb2⟩
  have kW : w2.heap[w.heap.size + 1 + 1]? = some (.cells #[.string s, .slice none 0 0] 46 (0, 0)) := (hb2.block _ (by simp)).trans (by simpa using HW.out)
  have kV : w2.heap[w.heap.size + 1]? = some (.cells #[.string ⟨#[]⟩, .slice none 0 0] 46 (0, 0)) := (hb2.block _ (by simp)).trans (by simpa using HV.out)
  have c1 : w2.cell? ⟨w.heap.size + 1 + 1, 0, none⟩ = some (.string s) := by rw [cell_of_row _ _ _ _ _ _ kW]; rfl
  have c2 : w2.cell? ⟨w.heap.size + 1 + 1, 1, none⟩ = some (.slice none 0 0) := by rw [cell_of_row _ _ _ _ _ _ kW]; rfl
  have c3 : w2.cell? ⟨w.heap.size + 1, 0, none⟩ = some (.string ⟨#[]⟩) := by rw [cell_of_row _ _ _ _ _ _ kV]; rfl
  have c4 : w2.cell? ⟨w.heap.size + 1, 1, none⟩ = some (.slice none 0 0) := by rw [cell_of_row _ _ _ _ _ _ kV]; rfl
  have f1 : w2.frozen? ⟨w.heap.size + 1 + 1, 1, none⟩ = false := by simp [World.frozen?, kW]
  have f3 : w2.frozen? ⟨w.heap.size + 1, 0, none⟩ = false := by simp [World.frozen?, kV]
  have f4 : w2.frozen? ⟨w.heap.size + 1, 1, none⟩ = false := by simp [World.frozen?, kV]
  obtain ⟨C, cp, rfl, _, _, _, _⟩ := own_form hu.row
  have Hu := Lib.hid hu
  have Hb2 : Hid (Below w.heap.size w w2) := Lib.hid (Hb0.out.trans (hb2.mono (by simp; omega)))
  clear kW kV hu hb2
  go_wp2_with fail
  have hb3 : Below w.heap.size w (((w2.setCell ⟨w.heap.size + 1 + 1, 1, none⟩ (.slice C rs.length cp)).setCell ⟨w.heap.size + 1, 0, none⟩ (.string s)).setCell ⟨w.heap.size + 1, 1, none⟩ (.slice C rs.length cp)) := ((Hb2.out.setCell (by show w.heap.size ≤ w.heap.size + 1 + 1; omega) _).setCell (by show w.heap.size ≤ w.heap.size + 1; omega) _).setCell (by show w.heap.size ≤ w.heap.size + 1; omega) _
  have d1 := cell_set2 (w := w2.setCell ⟨w.heap.size + 1 + 1, 1, none⟩ (.slice C rs.length cp)) (g := w.heap.size + 1) (a := .string s) (b := .slice C rs.length cp) ((cell_other (.inl (by omega))).trans c3) ((cell_other (.inl (by omega))).trans c4)
  refine bodyPost_ret (v := .agg #[.string s, .slice C rs.length cp]) (by simp [results, Try.results27, go_sem, d1.1, d1.2]) rfl ⟨_, rfl, ?_, hb3⟩
  have hu : OR w2 _ _ (.slice C rs.length cp) rs := Hu.out
  exact (((hu.set (a := ⟨w.heap.size + 1 + 1, 1, none⟩) (x := .slice C rs.length cp) (by simp)).set (a := ⟨w.heap.size + 1, 0, none⟩) (x := .string s) (by simp)).set (a := ⟨w.heap.size + 1, 1, none⟩) (x := .slice C rs.length cp) (by simp)).wide (by simp; omega) (by simp)

/-- k offices are there, empty ones behind them. -/
def padO (ps : List (ByteArray × Value)) (n : Nat) : List (ByteArray × Value) := ps ++ List.replicate (n - ps.length) (⟨#[]⟩, .slice none 0 0)
theorem padO_length {ps : List (ByteArray × Value)} {n : Nat} (h : ps.length ≤ n) : (padO ps n).length = n := by simp [padO]; omega
theorem padO_at {ps : List (ByteArray × Value)} {n : Nat} (h : ps.length < n) : (padO ps n)[ps.length]? = some (⟨#[]⟩, .slice none 0 0) := by
  rw [padO, List.getElem?_append_right (Nat.le_refl _), Nat.sub_self, List.getElem?_replicate, if_pos (by omega)]
theorem padO_set {ps : List (ByteArray × Value)} {n : Nat} (p : ByteArray × Value) (h : ps.length < n) : (padO ps n).set ps.length p = padO (ps ++ [p]) n := by
  unfold padO
  rw [List.set_append_right _ _ (Nat.le_refl _), Nat.sub_self, List.length_append, List.length_cons, List.length_nil]
  have e : n - ps.length = (n - (ps.length + (0 + 1))) + 1 := by omega
  rw [e, List.replicate_succ, List.set_cons_zero, List.append_assoc]; rfl
theorem padO_full {ps : List (ByteArray × Value)} : padO ps ps.length = ps := by simp [padO]

set_option maxRecDepth 100000 in
set_option maxHeartbeats 1600000 in
theorem toO_c (v : Value) (net : List Off) (w : World) (h : InO w v net) (hs : SmO net) :
    Calls Try.prog 9 #[v] w fun e w' => ∃ u, e = .returned u ∧ OO w' w.heap.size w'.heap.size u net ∧ Below w.heap.size w w' := by
  have H := Lib.hid h
  obtain ⟨A, c, rfl, hc1, hc2⟩ := h.form
  have hn := hs.len
  have Hs := Lib.hid hs
  clear h
  obtain ⟨i0, hi, hz0, hz1, hz2⟩ := info_parts off_info
  go_enter Try.func9, Try.ntmps9
  go_wp2_with (at_make; refine wpList_make_full _ rfl _ _ _ rfl w.heap.size 46 i0 _ 2 Try.underlying25 hi hz0 hz1 _ _ _ _ net.length rfl rfl rfl rfl (by rw [hz2]; omega) (by unfold maxLen; omega) (Nat.le_refl _) ?_; intro w1 hown1 hg1)
  have hmade : (madeCells (Value.agg #[.string ⟨#[]⟩, .slice none 0 0]).cells (net.length * 2)).toList = cs2 otf (List.replicate net.length ((⟨#[]⟩ : ByteArray), Value.slice none 0 0)) := made2 otf ((⟨#[]⟩ : ByteArray), Value.slice none 0 0) net.length
  rw [hmade] at hown1
  have hb1 : Below w.heap.size w w1 := (Below.refl _ _).grown hg1 (Nat.le_refl _) (by simp)
  have Hb1 := Lib.hid hb1
  have H0 : Hid (∃ ps, ps.length = 0 ∧ w1.ownsRow w.heap.size 46 2 (.slice (some ⟨w.heap.size, 0, none⟩) net.length net.length) net.length (cs2 otf (padO ps net.length)) ∧ OffRd w1 ps (net.take 0)) := Lib.hid ⟨[], rfl, by simpa [padO] using hown1, rfl, by simp⟩
  clear hown1 hg1 hmade hb1
  go_loopw [4] (fun i wr => ∃ k : Nat, k ≤ net.length ∧ i = .int .i64 k ∧ Hid (Below w.heap.size w wr) ∧ Hid (∃ ps, ps.length = k ∧ wr.ownsRow w.heap.size 46 2 (.slice (some ⟨w.heap.size, 0, none⟩) net.length net.length) net.length (cs2 otf (padO ps net.length)) ∧ (∀ W, Only wr W w.heap.size (w.heap.size + 1) → OffRd W ps (net.take k)))) (fun i _ => net.length - (intOf i).toNat)
  case atStart => exact ⟨0, Nat.zero_le _, rfl, Hb1, Lib.hid (by
    obtain ⟨ps, h1, h2, h3⟩ := H0.out
    have : ps = [] := List.eq_nil_of_length_eq_zero h1
    subst this
    exact ⟨[], rfl, h2, fun W _ => ⟨rfl, by simp⟩⟩)⟩
  case round =>
    obtain ⟨k, hk, rfl, Hb, Hps⟩ := hrel
    clear H0 Hb1
    by_cases hlt : k < net.length
    · obtain ⟨ad, o, u, rfl, ho, hcA, hcB, hru⟩ := (H.out.below Hb.out).at_ hlt
      obtain ⟨UA, uc, rfl, hu1, hu2, hu3⟩ := hru
      have hsm : o.2.length ≤ 1048576 := Hs.out.each o (List.mem_of_getElem? ho)
      have HT := Lib.hid (toOffice_any o.1 (.slice UA o.2.length uc) o.2 wr ⟨UA, uc, rfl, hu1, hu2, hu3⟩ hsm)
      have Ho := Lib.hid ho
      clear ho hu1 hsm
      go_wp2_with fail
      refine HT.out.mono ?_
      rintro e w2 ⟨z, rfl, hz, hb2⟩
      obtain ⟨ps, hpl, hown, hrd⟩ := Hps.out
      have hown0 := hown
      obtain ⟨ZA, zc, rfl, _, _, _, _⟩ := own_form hz.row
      have Hz := Lib.hid hz
      replace hown := own_below hown hb2
      have Hb2 := Lib.hid (below_trans' Hb.out hb2)
      have hpk : ps.length < net.length := by omega
      obtain ⟨hg0, hg1⟩ := cs2_get (f := otf) (padO_at hpk)
      rw [hpl] at hg0 hg1
      have hc2' : w2.cell? ⟨w.heap.size, k * 2, none⟩ = some (.string ⟨#[]⟩) := (hown.cellAt _ (by omega)).trans hg0
      have hc3' : w2.cell? ⟨w.heap.size, k * 2 + 1, none⟩ = some (.slice none 0 0) := (hown.cellAt _ (by omega)).trans hg1
      have hfz : w2.frozen? ⟨w.heap.size, k * 2, none⟩ = false := hown.frozenAt _
      have hfz2 : w2.frozen? ⟨w.heap.size, k * 2 + 1, none⟩ = false := hown.frozenAt _
      have hst := ((hown.stored (k * 2) (.string o.1)).1.stored (k * 2 + 1) (.slice ZA o.2.length zc)).1
      have hset := cs2_set (f := otf) (padO ps net.length) k (o.1, Value.slice ZA o.2.length zc)
      simp only [otf] at hset
      have hset2 := padO_set (n := net.length) (o.1, Value.slice ZA o.2.length zc) hpk
      rw [hpl] at hset2
      rw [hset, hset2] at hst
      have hwl : w.heap.size < wr.heap.size := Nat.lt_of_lt_of_le (hown0.lt _ rfl).2 (Nat.le_refl _)
      have Hst := Lib.hid hst
      have Hrd : Hid (∀ W, Only ((w2.setCell ⟨w.heap.size, k * 2, none⟩ (.string o.1)).setCell ⟨w.heap.size, k * 2 + 1, none⟩ (.slice ZA o.2.length zc)) W w.heap.size (w.heap.size + 1) → OffRd W (ps ++ [(o.1, .slice ZA o.2.length zc)]) (net.take (k + 1))) := Lib.hid fun W hW => by
        have o1 : Only wr w2 w.heap.size (w.heap.size + 1) := Only.of_below hb2 _ _
        have o2 : Only w2 ((w2.setCell ⟨w.heap.size, k * 2, none⟩ (.string o.1)).setCell ⟨w.heap.size, k * 2 + 1, none⟩ (.slice ZA o.2.length zc)) w.heap.size (w.heap.size + 1) := (Only.grown (set_grown _ _ _) (fun g e => by injection e with e; simp at e; omega)).trans (Only.grown (set_grown _ _ _) (fun g e => by injection e with e; simp at e; omega))
        have h1 := hrd W ((o1.trans o2).trans hW)
        have h2 : OR W wr.heap.size w2.heap.size (.slice ZA o.2.length zc) o.2 := (Hz.out.only (o2.trans hW) (.inr (by omega)))
        refine ⟨by rw [List.length_append, take_snoc Ho.out, List.length_append, h1.len]; rfl, fun i p q hp hq => ?_⟩
        rw [take_snoc Ho.out] at hq
        rcases snoc_both h1.len hp hq with ⟨a, b⟩ | ⟨rfl, rfl⟩
        · exact h1.row i p q a b
        · exact ⟨rfl, h2.in_⟩
      have hb4 : Below w.heap.size w ((w2.setCell ⟨w.heap.size, k * 2, none⟩ (.string o.1)).setCell ⟨w.heap.size, k * 2 + 1, none⟩ (.slice ZA o.2.length zc)) := (Hb2.out.setCell (Nat.le_refl _) _).setCell (Nat.le_refl _) _
      have Hb4 := Lib.hid hb4
      have Hpl : Hid ((ps ++ [(o.1, Value.slice ZA o.2.length zc)]).length = k + 1) := Lib.hid (by simp [hpl])
      clear hst hset hset2 hown hrd hz hb2 hb4 hg0 hg1 hown0
      go_wp2_with fail
      go_roundw
      case rel => exact ⟨k + 1, by omega, by go_num, Hb4, Lib.hid ⟨_, Hpl.out, Hst.out, Hrd.out⟩⟩
      case measure => simp [intOf]; omega
    · have hk' : k = net.length := by omega
      subst hk'
      obtain ⟨ps, hpl, hown, hrd⟩ := Hps.out
      have hpo : padO ps net.length = ps := by rw [← hpl]; exact padO_full
      rw [hpo] at hown
      have hr := hrd _ (Only.refl _ _ _)
      rw [List.take_length] at hr
      have Hr := Lib.hid (And.intro hown hr)
      have Hpl := Lib.hid hpl
      clear hown hr hrd hpo hpl
      go_wp2_with fail
      go_ret
      exact ⟨_, rfl, ⟨ps, by have := sl_own Hr.out.1; rwa [Hpl.out], Hr.out.2⟩, Hb.out⟩

end Go.Proofs.Ythmngaioimohaaa
