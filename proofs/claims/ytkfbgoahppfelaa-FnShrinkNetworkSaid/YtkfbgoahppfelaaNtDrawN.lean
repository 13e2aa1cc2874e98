
/- The walks of what draws networks. -/
import Derived.Test.YtkfbgoahppfelaaNtDrawL
import Derived.Test.YtkfbgoahppfelaaNtP
namespace Go.Proofs.Ytkfbgoahppfelaa
open Go.RowKit
set_option linter.unusedVariables false

theorem off_elem : ElemInfo Try.prog 47 56 2 40 := elemInfo_of Try.underlying47 off_info rfl (by decide)
theorem ocs_oneCell (xs : List (ByteArray × Value)) (h : ∀ p ∈ xs, p.2.oneCell' = true) : ∀ u ∈ cs2 otf xs, u.oneCell' = true := by
  intro u hu
  simp only [cs2, List.mem_flatMap] at hu
  obtain ⟨x, hx, hu⟩ := hu
  simp [otf] at hu
  rcases hu with rfl | rfl
  · rfl
  · exact h x hx
/-- Offices that are drawn: the row of offices, and rows of rules, of the call's own. -/
structure ONp (w : World) (B : Nat) (v : Value) (ps : List (ByteArray × Value)) (net : List Off) : Prop where
  own : w.ownsRow B 56 2 v ps.length (cs2 otf ps)
  len : ps.length = net.length
  row : ∀ (i : Nat) (p : ByteArray × Value) (o : Off), ps[i]? = some p → net[i]? = some o → p.1 = o.1 ∧ w.ownsRow B 31 2 p.2 o.2.length (rcs o.2)
def ON (w : World) (B : Nat) (v : Value) (net : List Off) : Prop := ∃ ps, ONp w B v ps net
theorem ne_rule_off : 31 ≠ 56 := by decide
theorem ONp.below {w w' : World} {B : Nat} {v : Value} {ps : List (ByteArray × Value)} {net : List Off} (h : ONp w B v ps net) (hb : Below w.heap.size w w') : ONp w' B v ps net :=
  ⟨own_below h.own hb, h.len, fun i p o a b => ⟨(h.row i p o a b).1, own_below (h.row i p o a b).2 hb⟩⟩
theorem ONp.past {w w' : World} {B R : Nat} {v : Value} {ps : List (ByteArray × Value)} {net : List Off} (h : ONp w B v ps net) (hR : R < B) (hg : w.grownBy w' (some R)) : ONp w' B v ps net :=
  ⟨own_past h.own hR hg, h.len, fun i p o a b => ⟨(h.row i p o a b).1, own_past (h.row i p o a b).2 hR hg⟩⟩
theorem ONp.base {w : World} {B B' : Nat} {v : Value} {ps : List (ByteArray × Value)} {net : List Off} (h : ONp w B v ps net) (hb : B' ≤ B) : ONp w B' v ps net :=
  ⟨own_base h.own hb, h.len, fun i p o a b => ⟨(h.row i p o a b).1, own_base (h.row i p o a b).2 hb⟩⟩
theorem ON.below {w w' : World} {B : Nat} {v : Value} {net : List Off} (h : ON w B v net) (hb : Below w.heap.size w w') : ON w' B v net := by obtain ⟨ps, h⟩ := h; exact ⟨ps, h.below hb⟩
theorem ON.past {w w' : World} {B R : Nat} {v : Value} {net : List Off} (h : ON w B v net) (hR : R < B) (hg : w.grownBy w' (some R)) : ON w' B v net := by obtain ⟨ps, h⟩ := h; exact ⟨ps, h.past hR hg⟩
theorem ON.base {w : World} {B B' : Nat} {v : Value} {net : List Off} (h : ON w B v net) (hb : B' ≤ B) : ON w B' v net := by obtain ⟨ps, h⟩ := h; exact ⟨ps, h.base hb⟩
theorem ON.io {w : World} {B : Nat} {v : Value} {net : List Off} (h : ON w B v net) : InO w v net := by
  obtain ⟨ps, h⟩ := h
  exact ⟨ps, sl_own h.own, h.len, fun i p o a b => ⟨(h.row i p o a b).1, sl_own (h.row i p o a b).2⟩⟩
theorem ON.form {w : World} {B : Nat} {v : Value} {net : List Off} (h : ON w B v net) : ∃ A c, v = .slice A net.length c ∧ net.length ≤ c := by
  obtain ⟨A, c, e, h1, _⟩ := InO.form h.io
  exact ⟨A, c, e, h1⟩
/-- A change in the row of offices alone. -/
theorem ONp.rows {w w' : World} {B : Nat} {v : Value} {ps : List (ByteArray × Value)} {net : List Off} (h : ONp w B v ps net) (hg : w.grownBy w' v.ownBlock) {u : Value} {ys : List Rul} (hr : w.ownsRow B 31 2 u ys.length (rcs ys)) : w'.ownsRow B 31 2 u ys.length (rcs ys) :=
  hr.kept hg (apart_row (own_apart_type hr h.own ne_rule_off))
theorem ONp.push {w w' : World} {B : Nat} {v v' : Value} {ps : List (ByteArray × Value)} {net : List Off} {s : ByteArray} {u : Value} {ys : List Rul} (h : ONp w B v ps net) (hr : w.ownsRow B 31 2 u ys.length (rcs ys)) (ho : w'.ownsRow B 56 2 v' (ps.length + 1) (cs2 otf ps ++ cs2 otf [(s, u)])) (hg : w.grownBy w' v.ownBlock) : ONp w' B v' (ps ++ [(s, u)]) (net ++ [(s, ys)]) := by
  refine ⟨by rw [List.length_append, cs2_append]; exact ho, by simp [h.len], fun i p o hp ho2 => ?_⟩
  rcases snoc_both h.len hp ho2 with ⟨a, b⟩ | ⟨rfl, rfl⟩
  · exact ⟨(h.row i p o a b).1, h.rows hg (h.row i p o a b).2⟩
  · exact ⟨rfl, h.rows hg hr⟩
/-- Offices of which no string is long and which have few rules. -/
def SmN (net : List Off) : Prop := ∀ o ∈ net, o.1.size ≤ 100 ∧ SmT 100 o.2 ∧ o.2.length ≤ 21
theorem SmN.szo {net : List Off} (h : SmN net) : SzO net := fun o ho => ⟨by have := (h o ho).1; unfold maxLen; omega, (h o ho).2.1.szr (by omega)⟩
theorem SmN.snoc {net : List Off} {o : Off} (h : SmN net) (ho : o.1.size ≤ 100 ∧ SmT 100 o.2 ∧ o.2.length ≤ 21) : SmN (net ++ [o]) := by
  intro x hx
  rcases List.mem_append.1 hx with h1 | h1
  · exact h x h1
  · simp at h1; subst h1; exact ho
theorem SmN.set {net : List Off} {k : Nat} {o : Off} (h : SmN net) (ho : o.1.size ≤ 100 ∧ SmT 100 o.2 ∧ o.2.length ≤ 21) : SmN (net.set k o) := by
  intro x hx
  rcases List.mem_or_eq_of_mem_set hx with h1 | h1
  · exact h x h1
  · rw [h1]; exact ho

def names4 : List ByteArray := [⟨#[97]⟩, ⟨#[98]⟩, ⟨#[99]⟩, ⟨#[100]⟩]
def heres : List ByteArray := [here, here]
theorem names4_sm : ∀ s ∈ names4, s.size = 1 := by intro s hs; simp [names4] at hs; rcases hs with rfl | rfl | rfl | rfl <;> rfl
theorem nexts_sm (n : Nat) : ∀ s ∈ heres ++ names4.take n, s.size ≤ 8 := by
  intro s hs
  rcases List.mem_append.1 hs with h | h
  · simp [heres] at h; subst h; decide
  · have := names4_sm s (List.mem_of_mem_take h); omega
theorem nexts_len {n : Nat} (h : n ≤ 4) : (heres ++ names4.take n).length = 2 + n := by simp [heres, names4]; omega

set_option maxRecDepth 100000 in
set_option maxHeartbeats 6400000 in
theorem net_any (R p : Nat) (w : World) (h : Reader w R p) (hp : p ≤ 137438953472) :
    Calls Try.prog 67 #[.pointer (some ⟨R, 0, none⟩)] w fun e w' => ∃ (v : Value) (net : List Off) (q : Nat), e = .returned v ∧ (ON w' w.heap.size v net ∧ ∀ o ∈ net, o.2.length ≤ 19) ∧ 1 ≤ net.length ∧ net.length ≤ 4 ∧ SmN net ∧ q ≤ p + 200 ∧ Dst w R q w' := by
  have hR := h.lt
  have hb0 : Below w.heap.size w (w.alloc (.cells #[.string ⟨#[97]⟩, .string ⟨#[98]⟩, .string ⟨#[99]⟩, .string ⟨#[100]⟩] 9)) := (Below.refl _ _).alloc (Nat.le_refl _) _
  have H1 := Lib.hid (pick_any R p 3 _ (h.below hb0) (by omega) (by omega))
  have Hd0 := Lib.hid ((Dst.start h).alloc (.cells #[.string ⟨#[97]⟩, .string ⟨#[98]⟩, .string ⟨#[99]⟩, .string ⟨#[100]⟩] 9))
  have HN0 := Lib.hid (rd_lit w #[.string ⟨#[97]⟩, .string ⟨#[98]⟩, .string ⟨#[99]⟩, .string ⟨#[100]⟩] 9)
  clear hb0 h
  go_enter Try.func67, Try.ntmps67
  go_wp2_with fail
  refine H1.out.mono ?_
  rintro e w1 ⟨a, rfl, ha, hr1, hg1⟩
  obtain ⟨j, rfl, hj⟩ := nat_of (ha.pos (by omega))
  obtain ⟨n, hn⟩ : ∃ n : Nat, n = 2 + j := ⟨_, rfl⟩
  have en : (2 : Int) + (j : Int) = (n : Int) := by omega
  have hn4 : n ≤ 4 := by omega
  have hn2 : 2 ≤ n := by omega
  have Hd1 := Lib.hid (Hd0.out.step hg1 hr1)
  have hsz1 := hg1.size
  rw [World.size_alloc] at hsz1
  have Hl : Hid (R < w1.heap.size) := Lib.hid (by omega)
  have HN : Hid (Rd w1 (some ⟨w.heap.size, 0, none⟩) (strs (names4.take n)) ∧ ∀ ad, (some ⟨w.heap.size, 0, none⟩ : Option Addr) = some ad → ad.block ≠ R) := Lib.hid ⟨by
    have h1 : Rd w1 (some ⟨w.heap.size, 0, none⟩) (strs names4) := HN0.out.grown hg1 (by rintro ad e e2; injection e with e; subst e; injection e2 with e2; simp at e2; omega)
    have h2 := h1.take n
    rw [show (strs names4).take n = strs (names4.take n) from by simp [strs, List.map_take]] at h2
    exact h2, by rintro ad e; injection e with e; subst e; show w.heap.size ≠ R; omega⟩
  have Hnl : Hid ((names4.take n).length = n) := Lib.hid (by simp [names4]; omega)
  have Hj := Lib.hid (And.intro hn hj)
  have Hd2 : Hid (Dst w1 R (p + 1) (w1.alloc (.cells #[] 56))) := Lib.hid ((Dst.start hr1).alloc _)
  have HO2 : Hid (ON (w1.alloc (.cells #[] 56)) w1.heap.size (.slice (some ⟨w1.heap.size, 0, none⟩) 0 0) []) := Lib.hid ⟨[], World.ownsRow_lit w1 #[] 0 (Nat.le_refl _) (Nat.zero_le _) rfl, rfl, by intro i p o h; simp at h⟩
  have b1 : (0 : Int) ≤ (n : Int) := by omega
  have b2 : (n : Int) ≤ 4 := by omega
  clear ha hr1 hg1 H1 Hd0 HN0 hn hj hsz1
  go_wp2_with fail
  go_loopw [4, 5] (fun o i wr => ∃ (k q : Nat) (net : List Off) (u0 : Value), k ≤ n ∧ i = .int .i64 k ∧ u0 = o ∧ q ≤ p + 1 + 40 * k ∧ net.length = k ∧ Hid (Dst w1 R q wr) ∧ Hid (ON wr w1.heap.size u0 net) ∧ Hid (SmN net) ∧ Hid (∀ o ∈ net, o.2.length ≤ 19)) (fun _ i _ => n - (intOf i).toNat)
  case atStart => exact ⟨0, p + 1, [], _, Nat.zero_le _, rfl, rfl, by omega, rfl, Hd2, HO2, Lib.hid (by intro o ho; simp at ho), Lib.hid (by intro o ho; simp at ho)⟩
  case round =>
    obtain ⟨k, q, net, u0, hk, rfl, rfl, hq, hnk, Hd, HO, Hs, H19⟩ := hrel
    clear Hd2 HO2
    by_cases hlt : k < n
    · have Hnk := Lib.hid hnk
      clear hnk
      have hkn : (k : Int) < (n : Int) := by omega
      obtain ⟨O0, oc0, rfl, _⟩ := HO.out.form
      obtain ⟨nm, hnm⟩ : ∃ nm, (names4.take n)[k]? = some nm := ⟨_, List.getElem?_eq_getElem (by rw [Hnl.out]; exact hlt)⟩
      have HNz : Hid (nm.size ≤ 1) := Lib.hid (Nat.le_of_eq (names4_sm nm (List.mem_of_mem_take (List.mem_of_getElem? hnm))))
      have HNM : Hid (∀ (q' : Nat) (W : World), Dst w1 R q' W → W.cell? ⟨w.heap.size, k, none⟩ = some (.string nm)) := Lib.hid fun q' W hd => by
        obtain ⟨nad, nn, hna, hnx, hnc⟩ := (rd_drawn HN.out hd.grown).str (k := k) (by rw [Hnl.out]; exact hlt)
        injection hna with hna
        subst hna
        rw [show (⟨w.heap.size, 0, none⟩ : Addr).add k = ⟨w.heap.size, k, none⟩ from by simp [Addr.add]; exact fun h => h.symm] at hnc
        rw [hnm] at hnx
        injection hnx with hnx
        subst hnx
        exact hnc
      clear hnm
      obtain ⟨wa, hwa⟩ : ∃ wa, wa = wr.alloc (.cells #[.string ⟨#[104, 101, 114, 101]⟩, .string ⟨#[104, 101, 114, 101]⟩] 9) := ⟨_, rfl⟩
      have hba : Below wr.heap.size wr wa := by rw [hwa]; exact (Below.refl _ _).alloc (Nat.le_refl _) _
      have Hoa : Hid (wa.ownsRow wr.heap.size 9 1 (.slice (some ⟨wr.heap.size, 0, none⟩) 2 2) 2 (strs heres)) := Lib.hid (by rw [hwa]; exact World.ownsRow_lit wr #[.string ⟨#[104, 101, 114, 101]⟩, .string ⟨#[104, 101, 114, 101]⟩] 2 (Nat.le_refl _) (by unfold maxLen; omega) rfl)
      have HNa : Hid (Rd wa (some ⟨w.heap.size, 0, none⟩) (strs (names4.take n))) := Lib.hid ((rd_drawn HN.out Hd.out.grown).below hba)
      have Hba := Lib.hid hba
      have hna : (strs (names4.take n)).length = n * 1 := by rw [strs_length, Hnl.out, Nat.mul_one]
      have Hna := Lib.hid hna
      clear hba hna
      go_wp2_with (at_builtin; simp only [← hwa]; refine wpList_append_rd rfl (.tmp 20) (.tmp 21) 38 rfl str_elem (base := wr.heap.size) (.slice (some ⟨wr.heap.size, 0, none⟩) 2 2) 2 (strs heres) rfl Hoa.out (some ⟨w.heap.size, 0, none⟩) n 4 (strs (names4.take n)) rfl Hna.out HNa.out (strs_oneCell _) (by unfold maxLen; omega) (by omega) Hba.out.size ?_; intro v6 w4 hown6 hg6 hm6)
      have Hb4 : Hid (Below wr.heap.size wr w4) := Lib.hid (Hba.out.grown hg6 Hba.out.size (fun g e => (Hoa.out.lt g e).1))
      obtain ⟨N6, c6, rfl, _, _, hr6, hg6'⟩ := own_form hown6
      have HR6 : Hid (Rd w4 N6 (strs (heres ++ names4.take n)) ∧ ∀ ad, N6 = some ad → ad.block ≠ R) := Lib.hid ⟨by rw [strs_append]; exact hr6, fun ad e => by
        obtain ⟨g, rfl, h1, _⟩ := hg6' ad e
        have := Hd.out.reader.lt
        show g ≠ R
        omega⟩
      have Hd4 := Lib.hid (Hd.out.below Hb4.out)
      have HO4 := Lib.hid (HO.out.below Hb4.out)
      have hnl := nexts_len hn4
      have H7 := rules_any R q N6 c6 (heres ++ names4.take n) w4 Hd4.out.reader (by omega) HR6.out.1 (by omega) (by omega) (nexts_sm n) HR6.out.2
      have H9 : ∀ (q' : Nat) (W : World), Dst w4 R q' W → q' ≤ 1099511627776 → Calls Try.prog 56 #[.pointer (some ⟨R, 0, none⟩), .slice N6 (2 + n) c6] W fun e w' => ∃ x : ByteArray, e = .returned (.string x) ∧ x.size ≤ 8 ∧ Reader w' R (q' + 1) ∧ W.grownBy w' (some R) := fun q' W hd hq' => by
        have := of_any R q' N6 c6 (heres ++ names4.take n) W hd.reader hq' (rd_drawn HR6.out hd.grown) (by omega) (by omega) HR6.out.2
        rw [hnl] at this
        exact this.mono fun e w' ⟨x, a, b, c, d⟩ => ⟨x, a, nexts_sm n x b, c, d⟩
      rw [hnl] at H7
      have HH7 := Lib.hid H7
      have HH9 := Lib.hid H9
      clear H7 H9 hnl hown6 hg6 hm6 hr6 hg6' Hd HO Hoa HNa Hna Hba hwa
      go_wp2_with fail
      refine HH7.out.mono ?_
      rintro e w5 ⟨v7, ys, q5, rfl, hy, hyl5, hys, hq5, hd5⟩
      have HR4 : Hid (R < w4.heap.size) := Lib.hid Hd4.out.lt
      have Hd5 := Lib.hid hd5
      have Hr5 := Lib.hid hy
      have hysm : SmT 100 ys := fun x hx => by have := hys x hx; omega
      have hyl : ys.length ≤ 19 := by omega
      obtain ⟨A7, c7, rfl, _, _, _, _⟩ := own_form hy
      have H8 := Lib.hid (pick_any R q5 3 w5 hd5.reader (by omega) (by omega))
      clear HH7 hy hys hd5
      go_wp2_with fail
      refine H8.out.mono ?_
      rintro e w6 ⟨a, rfl, ha, hr6, hg6⟩
      obtain ⟨m, rfl, hm⟩ := nat_of (ha.pos (by omega))
      have Hd6 := Lib.hid (Hd5.out.step hg6 hr6)
      have Hr6 := Lib.hid (own_past Hr5.out HR4.out hg6)
      clear ha hr6 hg6 H8 Hd5 Hr5
      by_cases hm0 : m = 0
      · subst hm0
        obtain ⟨ps, hps⟩ := HO4.out.past Hl.out Hd6.out.grown
        have hpl := hps.len
        have hnc := HNM.out _ _ (Hd4.out.step Hd6.out.grown Hd6.out.reader)
        obtain ⟨wn, hwn⟩ : ∃ wn, wn = w6.alloc (.cells #[.string nm, .slice A7 ys.length c7] 56) := ⟨_, rfl⟩
        have hbl : Below w6.heap.size w6 wn := by rw [hwn]; exact (Below.refl _ _).alloc (Nat.le_refl _) _
        have hnw : Rd wn (some ⟨w6.heap.size, 0, none⟩) (cs2 otf [(nm, .slice A7 ys.length c7)]) := by rw [hwn]; exact rd_new w6 (cs2 otf [(nm, .slice A7 ys.length c7)]) 56
        have Hps := Lib.hid (hps.below hbl)
        have HrY := Lib.hid (own_base (own_below Hr6.out hbl) Hd4.out.size)
        have HdY := Lib.hid ((Hd4.out.step Hd6.out.grown Hd6.out.reader).below hbl)
        have Hnw := Lib.hid hnw
        have hpe : ps.length = net.length := hpl
        have Hpe := Lib.hid hpe
        have Hbs : Hid (w1.heap.size ≤ wn.heap.size) := Lib.hid HdY.out.size
        clear hps hnw hbl hpl hpe
        go_wp2_with (at_builtin; simp only [← hwn]; refine wpList_append_rd rfl (.tmp 41) (.tmp 48) 47 rfl off_elem (base := w1.heap.size) (.slice O0 net.length oc0) ps.length (cs2 otf ps) rfl Hps.out.own (some ⟨w6.heap.size, 0, none⟩) 1 1 (cs2 otf [(nm, .slice A7 ys.length c7)]) rfl rfl Hnw.out (ocs_oneCell _ (by intro p hp; simp at hp; subst hp; rfl)) (by unfold maxLen; have := Hpe.out; have := Hnk.out; omega) (by have := Hpe.out; have := Hnk.out; omega) Hbs.out ?_; intro v9 w9 hown9 hg9 hm9)
        have HoZ : Hid (ON w9 w1.heap.size v9 (net ++ [(nm, ys)])) := Lib.hid ⟨_, Hps.out.push HrY.out hown9 hg9⟩
        have HdZ : Hid (Dst w1 R (q5 + 1) w9) := Lib.hid (HdY.out.own Hl.out hg9 (fun g e => (Hps.out.own.lt g e).1))
        have HsZ : Hid (SmN (net ++ [(nm, ys)])) := Lib.hid (Hs.out.snoc ⟨by have := HNz.out; show nm.size ≤ 100; omega, hysm, Nat.le_trans hyl (by omega)⟩)
        have H19Z : Hid (∀ o ∈ net ++ [(nm, ys)], o.2.length ≤ 19) := Lib.hid fun o ho => by
          rcases List.mem_append.1 ho with h | h
          · exact H19.out o h
          · simp at h; subst h; exact hyl
        clear hown9 hg9 hm9 Hps HrY HdY Hnw Hbs hwn hnc
        go_roundw
        case rel => exact ⟨k + 1, _, net ++ [(nm, ys)], _, by omega, by go_num, rfl, by omega, by rw [List.length_append, Hnk.out]; rfl, HdZ, HoZ, HsZ, H19Z⟩
        case measure => simp [intOf]; omega
      · have hm1 : (0 : Int) < (m : Int) := by omega
        have H9 := Lib.hid (spec_idx (.slice A7 ys.length c7) ys ⟨#[]⟩ w6 (sl_own Hr6.out))
        go_wp2_with fail
        refine H9.out.mono ?_
        rintro e w7 ⟨rfl, hb7⟩
        have Hd7 := Lib.hid (Hd6.out.below hb7)
        have Hr7 := Lib.hid (own_below Hr6.out hb7)
        clear hb7 H9 Hd6 Hr6
        generalize idxI ys ⟨#[]⟩ = ix at *
        by_cases hix : ix < 0
        · have H10 := Lib.hid (HH9.out (q5 + 1) w7 Hd7.out (by omega))
          go_wp2_with fail
          refine H10.out.mono ?_
          rintro e w8 ⟨s, rfl, hs8, hr8, hg8⟩
          have Hd8 := Lib.hid (Hd7.out.step hg8 hr8)
          have Hr8 := Lib.hid (own_past Hr7.out HR4.out hg8)
          clear hr8 hg8 H10 Hd7 Hr7
          obtain ⟨wb, hwb⟩ : ∃ wb, wb = w8.alloc (.cells #[.string ⟨#[]⟩, .string s] 31) := ⟨_, rfl⟩
          have hbb : Below w8.heap.size w8 wb := by rw [hwb]; exact (Below.refl _ _).alloc (Nat.le_refl _) _
          have hnb : Rd wb (some ⟨w8.heap.size, 0, none⟩) (rcs [((⟨#[]⟩ : ByteArray), s)]) := by rw [hwb]; exact rd_new w8 (rcs [((⟨#[]⟩ : ByteArray), s)]) 31
          have Hnb := Lib.hid hnb
          have Hdb := Lib.hid (Hd8.out.below hbb)
          have Hrb := Lib.hid (own_below Hr8.out hbb)
          have Hbsb : Hid (w4.heap.size ≤ wb.heap.size) := Lib.hid Hdb.out.size
          clear hnb hbb Hd8 Hr8
          obtain ⟨zs, hzs⟩ : ∃ zs, zs = ys ++ [((⟨#[]⟩ : ByteArray), s)] := ⟨_, rfl⟩
          have Hzs := Lib.hid hzs
          have Hzl1 : Hid (zs.length = ys.length + 1) := Lib.hid (by rw [hzs, List.length_append]; rfl)
          clear hzs
          go_upto_region 10 with (at_builtin; simp only [← hwb]; refine wpList_append_rd rfl (.tmp 34) (.tmp 39) 23 rfl rul_elem (base := w4.heap.size) (.slice A7 ys.length c7) ys.length (rcs ys) rfl Hrb.out (some ⟨w8.heap.size, 0, none⟩) 1 1 (rcs [((⟨#[]⟩ : ByteArray), s)]) rfl rfl Hnb.out (rcs_oneCell _) (by unfold maxLen; omega) (by omega) Hbsb.out ?_; intro v5 wc hown5 hg5 hm5; have hdc := Hdb.out.own HR4.out hg5 (fun g e => (Hrb.out.lt g e).1); have hncc := HNM.out _ _ (Hd4.out.step hdc.grown hdc.reader); rw [← Hzl1.out] at hown5; obtain ⟨A9, c9, rfl, _, _, _, _⟩ := own_form hown5)
          have Hrc : Hid (wc.ownsRow w4.heap.size 31 2 (.slice A9 zs.length c9) zs.length (rcs zs)) := Lib.hid (by rw [show rcs zs = rcs ys ++ rcs [((⟨#[]⟩ : ByteArray), s)] from by rw [Hzs.out]; exact cs2_append _ _]; exact hown5)
          have Hdc := Lib.hid hdc
          clear hdc
          have hzsm : SmT 100 zs := by rw [Hzs.out]; exact hysm.snoc ⟨by show (0 : Nat) ≤ 100; omega, by show s.size ≤ 100; omega⟩
          have hzl : zs.length ≤ 19 := by have := Hzl1.out; omega
          clear hown5 hg5 hm5 Hdb Hrb Hnb hysm hyl hwb hncc
          have hysm := hzsm
          have hyl := hzl
          clear hzsm hzl
          obtain ⟨ps, hps⟩ := HO4.out.past Hl.out Hdc.out.grown
          have hpl := hps.len
          have hnc := HNM.out _ _ (Hd4.out.step Hdc.out.grown Hdc.out.reader)
          obtain ⟨wn, hwn⟩ : ∃ wn, wn = wc.alloc (.cells #[.string nm, .slice A9 zs.length c9] 56) := ⟨_, rfl⟩
          have hbl : Below wc.heap.size wc wn := by rw [hwn]; exact (Below.refl _ _).alloc (Nat.le_refl _) _
          have hnw : Rd wn (some ⟨wc.heap.size, 0, none⟩) (cs2 otf [(nm, .slice A9 zs.length c9)]) := by rw [hwn]; exact rd_new wc (cs2 otf [(nm, .slice A9 zs.length c9)]) 56
          have Hps := Lib.hid (hps.below hbl)
          have HrY := Lib.hid (own_base (own_below Hrc.out hbl) Hd4.out.size)
          have HdY := Lib.hid ((Hd4.out.step Hdc.out.grown Hdc.out.reader).below hbl)
          have Hnw := Lib.hid hnw
          have hpe : ps.length = net.length := hpl
          have Hpe := Lib.hid hpe
          have Hbs : Hid (w1.heap.size ≤ wn.heap.size) := Lib.hid HdY.out.size
          clear hps hnw hbl hpl hpe
          go_wp2_with (at_builtin; simp only [← hwn]; refine wpList_append_rd rfl (.tmp 41) (.tmp 48) 47 rfl off_elem (base := w1.heap.size) (.slice O0 net.length oc0) ps.length (cs2 otf ps) rfl Hps.out.own (some ⟨wc.heap.size, 0, none⟩) 1 1 (cs2 otf [(nm, .slice A9 zs.length c9)]) rfl rfl Hnw.out (ocs_oneCell _ (by intro p hp; simp at hp; subst hp; rfl)) (by unfold maxLen; have := Hpe.out; have := Hnk.out; omega) (by have := Hpe.out; have := Hnk.out; omega) Hbs.out ?_; intro v9 w9 hown9 hg9 hm9)
          have HoZ : Hid (ON w9 w1.heap.size v9 (net ++ [(nm, zs)])) := Lib.hid ⟨_, Hps.out.push HrY.out hown9 hg9⟩
          have HdZ : Hid (Dst w1 R (q5 + 1 + 1) w9) := Lib.hid (HdY.out.own Hl.out hg9 (fun g e => (Hps.out.own.lt g e).1))
          have HsZ : Hid (SmN (net ++ [(nm, zs)])) := Lib.hid (Hs.out.snoc ⟨by have := HNz.out; show nm.size ≤ 100; omega, hysm, Nat.le_trans hyl (by omega)⟩)
          have H19Z : Hid (∀ o ∈ net ++ [(nm, zs)], o.2.length ≤ 19) := Lib.hid fun o ho => by
            rcases List.mem_append.1 ho with h | h
            · exact H19.out o h
            · simp at h; subst h; exact hyl
          clear hown9 hg9 hm9 Hps HrY HdY Hnw Hbs hwn hnc
          go_roundw
          case rel => exact ⟨k + 1, _, net ++ [(nm, zs)], _, by omega, by go_num, rfl, by omega, by rw [List.length_append, Hnk.out]; rfl, HdZ, HoZ, HsZ, H19Z⟩
          case measure => simp [intOf]; omega
        · have hix' : ¬ ix < 0 := hix
          obtain ⟨ps, hps⟩ := HO4.out.past Hl.out Hd7.out.grown
          have hpl := hps.len
          have hnc := HNM.out _ _ (Hd4.out.step Hd7.out.grown Hd7.out.reader)
          obtain ⟨wn, hwn⟩ : ∃ wn, wn = w7.alloc (.cells #[.string nm, .slice A7 ys.length c7] 56) := ⟨_, rfl⟩
          have hbl : Below w7.heap.size w7 wn := by rw [hwn]; exact (Below.refl _ _).alloc (Nat.le_refl _) _
          have hnw : Rd wn (some ⟨w7.heap.size, 0, none⟩) (cs2 otf [(nm, .slice A7 ys.length c7)]) := by rw [hwn]; exact rd_new w7 (cs2 otf [(nm, .slice A7 ys.length c7)]) 56
          have Hps := Lib.hid (hps.below hbl)
          have HrY := Lib.hid (own_base (own_below Hr7.out hbl) Hd4.out.size)
          have HdY := Lib.hid ((Hd4.out.step Hd7.out.grown Hd7.out.reader).below hbl)
          have Hnw := Lib.hid hnw
          have hpe : ps.length = net.length := hpl
          have Hpe := Lib.hid hpe
          have Hbs : Hid (w1.heap.size ≤ wn.heap.size) := Lib.hid HdY.out.size
          clear hps hnw hbl hpl hpe
          go_wp2_with (at_builtin; simp only [← hwn]; refine wpList_append_rd rfl (.tmp 41) (.tmp 48) 47 rfl off_elem (base := w1.heap.size) (.slice O0 net.length oc0) ps.length (cs2 otf ps) rfl Hps.out.own (some ⟨w7.heap.size, 0, none⟩) 1 1 (cs2 otf [(nm, .slice A7 ys.length c7)]) rfl rfl Hnw.out (ocs_oneCell _ (by intro p hp; simp at hp; subst hp; rfl)) (by unfold maxLen; have := Hpe.out; have := Hnk.out; omega) (by have := Hpe.out; have := Hnk.out; omega) Hbs.out ?_; intro v9 w9 hown9 hg9 hm9)
          have HoZ : Hid (ON w9 w1.heap.size v9 (net ++ [(nm, ys)])) := Lib.hid ⟨_, Hps.out.push HrY.out hown9 hg9⟩
          have HdZ : Hid (Dst w1 R (q5 + 1) w9) := Lib.hid (HdY.out.own Hl.out hg9 (fun g e => (Hps.out.own.lt g e).1))
          have HsZ : Hid (SmN (net ++ [(nm, ys)])) := Lib.hid (Hs.out.snoc ⟨by have := HNz.out; show nm.size ≤ 100; omega, hysm, Nat.le_trans hyl (by omega)⟩)
          have H19Z : Hid (∀ o ∈ net ++ [(nm, ys)], o.2.length ≤ 19) := Lib.hid fun o ho => by
            rcases List.mem_append.1 ho with h | h
            · exact H19.out o h
            · simp at h; subst h; exact hyl
          clear hown9 hg9 hm9 Hps HrY HdY Hnw Hbs hwn hnc
          go_roundw
          case rel => exact ⟨k + 1, _, net ++ [(nm, ys)], _, by omega, by go_num, rfl, by omega, by rw [List.length_append, Hnk.out]; rfl, HdZ, HoZ, HsZ, H19Z⟩
          case measure => simp [intOf]; omega
    · have hk' : k = n := by omega
      subst hk'
      have Hnk := Lib.hid hnk
      clear hnk
      go_wp2_with fail
      go_ret
      have hd := Hd1.out.step Hd.out.grown Hd.out.reader
      exact ⟨_, net, q, rfl, ⟨HO.out.base Hd1.out.size, H19.out⟩, by have := Hnk.out; omega, by have := Hnk.out; omega, fun o ho => Hs.out o ho, by omega, hd⟩

end Go.Proofs.Ytkfbgoahppfelaa
