
/- The walk of what draws rules. -/
import Derived.Test.YtkfbgoahppfelaaNtDraw
import Derived.Test.YtkfbgoahppfelaaNtO
import Derived.Deep.RegionHeld3
import Derived.Deep.DeepCutAuto
namespace Go.Proofs.Ytkfbgoahppfelaa
open Go.RowKit
set_option linter.unusedVariables false

theorem in6 {x a b c d e f : Int} {m : Nat} (h : x ∈ [a, b, c, d, e, f]) (ha : 0 ≤ a ∧ a ≤ m) (hb : 0 ≤ b ∧ b ≤ m) (hc : 0 ≤ c ∧ c ≤ m) (hd : 0 ≤ d ∧ d ≤ m) (he : 0 ≤ e ∧ e ≤ m) (hf : 0 ≤ f ∧ f ≤ m) : ∃ n : Nat, x = (n : Int) ∧ n ≤ m := by
  simp at h
  refine ⟨x.toNat, ?_, ?_⟩ <;> rcases h with h | h | h | h | h | h <;> omega
theorem Dst.drew {w0 w : World} {R p : Nat} (h : Dst w0 R p w) : Dst w0 R p w.drew := h.below (Below.refl _ _).drew
theorem head_at (w0 : World) (R p : Nat) (w : World) (h : Dst w0 R p w) (hp : p ≤ 549755813888) :
    Calls Try.prog 46 #[.pointer (some ⟨R, 0, none⟩)] w fun e w' => ∃ (s : ByteArray), e = .returned (.string s) ∧ s.size = 7 ∧ w.grownBy w' (some R) ∧ Dst w0 R (p + 3) w' :=
  (head_any R p w h.reader hp).mono fun e w' ⟨s, he, hs, hd⟩ => ⟨s, he, hs, hd.grown, h.step hd.grown hd.reader⟩
/-- The numbers of which the length of a prefix is drawn lie in block K. -/
structure LitAt (w : World) (K R : Nat) : Prop where
  rd : Rd w (some ⟨K, 0, none⟩) (ints [0, 4, 5, 6, 7, 2])
  ne : K ≠ R
theorem lit_new {R K : Nat} {X : World} {cs : Array Value} {t : TypeId} (h : R < X.heap.size) (hcs : cs.toList = ints [0, 4, 5, 6, 7, 2]) (hK : K = X.heap.size) : LitAt (X.alloc (.cells cs t)) K R := by
  subst hK
  exact ⟨by rw [← hcs]; exact rd_lit X _ _, by omega⟩
theorem lit_alloc {X : World} {K R : Nat} {o : Obj} (h : LitAt X K R) : LitAt (X.alloc o) K R := ⟨h.rd.below ((Below.refl _ _).alloc (Nat.le_refl _) _), h.ne⟩
theorem lit_drew {X : World} {K R : Nat} (h : LitAt X K R) : LitAt X.drew K R := ⟨h.rd.below (Below.refl _ _).drew, h.ne⟩
theorem lit_grown {X W : World} {K R : Nat} (h : LitAt X K R) (hg : X.grownBy W (some R)) : LitAt W K R := ⟨h.rd.grown hg (by rintro ad e e2; injection e with e; subst e; injection e2 with e2; exact h.ne e2), h.ne⟩
theorem num_at (w0 : World) (R p K : Nat) (w : World) (h : Dst w0 R p w) (hK : LitAt w K R) (hp : p ≤ 1099511627776) :
    Calls Try.prog 55 #[.pointer (some ⟨R, 0, none⟩), .slice (some ⟨K, 0, none⟩) 6 6] w fun e w' => ∃ x : Nat, e = .returned (.int .i64 (x : Int)) ∧ x ≤ 7 ∧ w.grownBy w' (some R) ∧ Dst w0 R (p + 1) w' :=
  (num_any R p (some ⟨K, 0, none⟩) 6 [0, 4, 5, 6, 7, 2] w h.reader hp hK.rd (by simp) (by simp) (by rintro ad e; injection e with e; subst e; exact hK.ne)).mono fun e w' ⟨x, he, hx, hr, hg⟩ => by
    obtain ⟨n, rfl, hn⟩ := in6 (m := 7) hx (by omega) (by omega) (by omega) (by omega) (by omega) (by omega)
    exact ⟨n, he, hn, hg, h.step hg hr⟩
theorem of_at (w0 : World) (R p : Nat) (A : Option Addr) (c : Nat) (ns : List ByteArray) (w : World) (h : Dst w0 R p w) (hA : Rd w0 A (strs ns)) (hn1 : 1 ≤ ns.length) (hn2 : ns.length ≤ 100) (hAR : ∀ ad, A = some ad → ad.block ≠ R) (hp : p ≤ 1099511627776) :
    Calls Try.prog 56 #[.pointer (some ⟨R, 0, none⟩), .slice A ns.length c] w fun e w' => ∃ x : ByteArray, e = .returned (.string x) ∧ x ∈ ns ∧ w.grownBy w' (some R) ∧ Dst w0 R (p + 1) w' :=
  (of_any R p A c ns w h.reader hp (rd_drawn ⟨hA, hAR⟩ h.grown) hn1 (by omega) hAR).mono fun e w' ⟨x, he, hx, hr, hg⟩ => ⟨x, he, hx, hg, h.step hg hr⟩

/-- An empty rule lies in block K. -/
structure XAt (w : World) (K R : Nat) : Prop where
  at_ : w.heap[K]? = some (.cells #[.string ⟨#[]⟩, .string ⟨#[]⟩] 31 (0, 0))
  ne : K ≠ R
theorem XAt.lt {w : World} {K R : Nat} (h : XAt w K R) : K < w.heap.size := (Array.getElem?_eq_some_iff.1 h.at_).1
theorem XAt.grown {X W : World} {K R : Nat} (h : XAt X K R) (hg : X.grownBy W (some R)) : XAt W K R := ⟨(hg.block K h.lt (fun e => by injection e with e; exact h.ne e)).trans h.at_, h.ne⟩
theorem XAt.below {X W : World} {K R : Nat} (h : XAt X K R) (hg : Below X.heap.size X W) : XAt W K R := ⟨(hg.block K h.lt).trans h.at_, h.ne⟩
theorem XAt.alloc {X : World} {K R : Nat} (h : XAt X K R) (o : Obj) : XAt (X.alloc o) K R := h.below ((Below.refl _ _).alloc (Nat.le_refl _) _)
theorem x_new {X : World} {R : Nat} (h : R < X.heap.size) : XAt (X.alloc (.cells #[.string ⟨#[]⟩, .string ⟨#[]⟩] 31)) X.heap.size R := ⟨heap_alloc_last _ _, by omega⟩
theorem x_grown1 {X W : World} {R : Nat} (hg : (X.alloc (.cells #[.string ⟨#[]⟩, .string ⟨#[]⟩] 31)).grownBy W (some R)) (h : R < X.heap.size) : XAt W X.heap.size R := (x_new h).grown hg
theorem x_grown2 {X W : World} {R : Nat} {o : Obj} (hg : ((X.alloc (.cells #[.string ⟨#[]⟩, .string ⟨#[]⟩] 31)).alloc o).grownBy W (some R)) (h : R < X.heap.size) : XAt W X.heap.size R := ((x_new h).alloc o).grown hg
theorem XAt.grownA {X W : World} {K R : Nat} {o : Obj} (h : XAt X K R) (hg : (X.alloc o).grownBy W (some R)) : XAt W K R := (h.alloc o).grown hg
theorem undrew {X W : World} {r : Option Nat} (h : X.drew.grownBy W r) : X.grownBy W r := ⟨h.os, h.tape, h.output, h.size, h.block⟩
theorem XAt.c0 {w : World} {K R : Nat} (h : XAt w K R) : w.cell? ⟨K, 0, none⟩ = some (.string ⟨#[]⟩) := by rw [cell_of_row _ _ _ _ _ _ h.at_]; rfl
theorem XAt.c1 {w : World} {K R : Nat} (h : XAt w K R) : w.cell? ⟨K, 1, none⟩ = some (.string ⟨#[]⟩) := by rw [cell_of_row _ _ _ _ _ _ h.at_]; rfl
theorem XAt.f0 {w : World} {K R : Nat} (h : XAt w K R) : w.frozen? ⟨K, 0, none⟩ = false := by simp [World.frozen?, h.at_]
theorem XAt.f1 {w : World} {K R : Nat} (h : XAt w K R) : w.frozen? ⟨K, 1, none⟩ = false := by simp [World.frozen?, h.at_]

theorem fin_new {wr w4 : World} {R q : Nat} {a x : ByteArray} (hD : Dst wr R q w4) (ha : a.size ≤ 7) (hx : x.size ≤ 8) : ∃ (g : Nat) (y : Rul), Value.pointer (some ⟨w4.heap.size, 0, none⟩) = .pointer (some ⟨g, 0, none⟩) ∧ (w4.alloc (.cells #[.string a, .string x] 31)).cell? ⟨g, 0, none⟩ = some (.string y.1) ∧ (w4.alloc (.cells #[.string a, .string x] 31)).cell? ⟨g, 1, none⟩ = some (.string y.2) ∧ y.1.size ≤ 7 ∧ y.2.size ≤ 8 ∧ Hid (Dst wr R q (w4.alloc (.cells #[.string a, .string x] 31))) := by
  have h := heap_alloc_last w4 (.cells #[.string a, .string x] 31)
  refine ⟨w4.heap.size, (a, x), rfl, ?_, ?_, ha, hx, Lib.hid (hD.alloc _)⟩
  · rw [cell_of_row _ _ _ _ _ _ h]; rfl
  · rw [cell_of_row _ _ _ _ _ _ h]; rfl
theorem fin_set {wr w4 : World} {R q K : Nat} {a x : ByteArray} (hX : XAt w4 K R) (hK : wr.heap.size ≤ K) (hR : R < wr.heap.size) (hD : Dst wr R q w4) (ha : a.size ≤ 7) (hx : x.size ≤ 8) : ∃ (g : Nat) (y : Rul), Value.pointer (some ⟨K, 0, none⟩) = .pointer (some ⟨g, 0, none⟩) ∧ ((w4.setCell ⟨K, 0, none⟩ (.string a)).setCell ⟨K, 1, none⟩ (.string x)).cell? ⟨g, 0, none⟩ = some (.string y.1) ∧ ((w4.setCell ⟨K, 0, none⟩ (.string a)).setCell ⟨K, 1, none⟩ (.string x)).cell? ⟨g, 1, none⟩ = some (.string y.2) ∧ y.1.size ≤ 7 ∧ y.2.size ≤ 8 ∧ Hid (Dst wr R q ((w4.setCell ⟨K, 0, none⟩ (.string a)).setCell ⟨K, 1, none⟩ (.string x))) := by
  obtain ⟨d1, d2⟩ := cell_set2 (a := .string a) (b := .string x) hX.c0 hX.c1
  have g1 := set_grown w4 ⟨K, 0, none⟩ (.string a)
  have g2 := set_grown (w4.setCell ⟨K, 0, none⟩ (.string a)) ⟨K, 1, none⟩ (.string x)
  exact ⟨K, (a, x), rfl, d1, d2, ha, hx, Lib.hid ((hD.own hR g1 (fun g e => by injection e with e; subst e; exact hK)).own hR g2 (fun g e => by injection e with e; subst e; exact hK))⟩

set_option maxRecDepth 100000 in
set_option maxHeartbeats 16000000 in
theorem rules_any (R p : Nat) (A : Option Addr) (c : Nat) (ns : List ByteArray) (w : World) (h : Reader w R p) (hp : p ≤ 274877906944) (hA : Rd w A (strs ns)) (hn1 : 1 ≤ ns.length) (hn2 : ns.length ≤ 100) (hns : ∀ s ∈ ns, s.size ≤ 8) (hAR : ∀ ad, A = some ad → ad.block ≠ R) :
    Calls Try.prog 44 #[.pointer (some ⟨R, 0, none⟩), .slice A ns.length c] w fun e w' => ∃ (v : Value) (xs : List Rul) (q : Nat), e = .returned v ∧ w'.ownsRow w.heap.size 31 2 v xs.length (rcs xs) ∧ xs.length ≤ 5 ∧ (∀ x ∈ xs, x.1.size ≤ 7 ∧ x.2.size ≤ 8) ∧ q ≤ p + 26 ∧ Dst w R q w' := by
  have hR := h.lt
  have Ho0 : Hid ((w.alloc (.cells #[] 31)).ownsRow w.heap.size 31 2 (.slice (some ⟨w.heap.size, 0, none⟩) 0 0) 0 (rcs [])) := Lib.hid (World.ownsRow_lit w #[] 0 (Nat.le_refl _) (Nat.zero_le _) rfl)
  have Hd0 := Lib.hid ((Dst.start h).alloc (.cells #[] 31))
  have hn := num_lit R p (w.heap.size + 1) 6 #[.int .i64 3, .int .i64 4, .int .i64 2, .int .i64 5, .int .i64 1, .int .i64 0] [3, 4, 2, 5, 1, 0] _ Hd0.out.reader (by omega) (by rw [World.size_alloc]) rfl rfl (by simp) (by simp)
  have Hn := Lib.hid hn
  have HA := Lib.hid hA
  have Hns := Lib.hid hns
  have HAR := Lib.hid hAR
  clear hn h hA hns hAR
  go_enter Try.func44, Try.ntmps44
  go_wp2_with fail
  refine Hn.out.mono ?_
  rintro e w1 ⟨x, rfl, hx, hr1, hg1⟩
  obtain ⟨N, rfl, hN⟩ := in6 (m := 5) hx (by omega) (by omega) (by omega) (by omega) (by omega) (by omega)
  have Ho1 := Lib.hid (own_past Ho0.out hR hg1)
  have Hd1 := Lib.hid (Hd0.out.step hg1 hr1)
  clear Hn Ho0 Hd0 hx hr1 hg1
  go_wp2_with fail
  go_loopw [5, 6] (fun v i wr => ∃ (k q : Nat) (xs : List Rul) (u0 : Value), k + xs.length ≤ N ∧ i = .int .i64 k ∧ u0 = v ∧ q + 5 * k ≤ p + 26 ∧ Hid (Dst w R q wr) ∧ Hid (wr.ownsRow w.heap.size 31 2 u0 xs.length (rcs xs)) ∧ Hid (∀ x ∈ xs, x.1.size ≤ 7 ∧ x.2.size ≤ 8)) (fun _ i _ => (intOf i).toNat)
  case atStart => exact ⟨N, p + 1, [], _, by simp, rfl, rfl, by omega, Hd1, Ho1, Lib.hid (by simp)⟩
  case round =>
    obtain ⟨k, q, xs, u0, hkN, rfl, rfl, hq, Hd, Ho, Hx⟩ := hrel
    clear Hd1 Ho1
    by_cases hk : 0 < k
    · have hk1 : (0 : Int) < k := by omega
      obtain ⟨C, cp, rfl, _, _, _, _⟩ := own_form Ho.out
      go_upto_region 5 with fail
      go_cut [7] (fun s7 wx => ∃ (g : Nat) (x : Rul), s7 = .pointer (some ⟨g, 0, none⟩) ∧ wx.cell? ⟨g, 0, none⟩ = some (.string x.1) ∧ wx.cell? ⟨g, 1, none⟩ = some (.string x.2) ∧ x.1.size ≤ 7 ∧ x.2.size ≤ 8 ∧ Hid (Dst wr R (q + 5) wx))
      case first =>
        rename_i Q1 K2 hK2 l1 l2 l3 l4 Q0 K1 hK1 K0 hK0 J0 K9 hJ hMet
        clear hK2 hK1 hK0 l1 l2 l3 l4
        have hD0 := Dst.start Hd.out.reader
        have hAw := rd_drawn ⟨HA.out, HAR.out⟩ Hd.out.grown
        have HD0 := Lib.hid hD0
        have hRw := hD0.lt
        have HAw := Lib.hid hAw
        clear hAw hD0
        go_region_with (first
          | (go_at_call 46; refine (head_at wr R q _ ?_ (by omega)).mono ?_; (focus with_reducible repeat' (first | exact HD0.out | assumption | apply Dst.alloc | apply Dst.drew)); rintro e w2 ⟨s, rfl, hs7, hgs, hds⟩; have hz2 := hds.size; (repeat (with_reducible replace hgs := undrew hgs)); (try ((with_reducible have hx2 := @x_grown1 _ _ _ hgs); replace hx2 := hx2 (by first | omega | (simp; omega)))); (try ((with_reducible have hx2 := @x_grown2 _ _ _ _ hgs); replace hx2 := hx2 (by first | omega | (simp; omega)))))
          | (go_at_call 55; go_loud (refine (num_at wr R (q + 3) _ _ ?_ ?_ (by omega)).mono ?_; (focus with_reducible repeat' (first | exact HD0.out | assumption | apply Dst.alloc | apply Dst.drew)); (focus repeat' (first | (with_reducible refine lit_grown ?_ hgs) | ((with_reducible refine lit_new ?_ ?_ ?_); (first | omega | (simp; omega)); exact rfl; simp) | (with_reducible apply lit_alloc) | (with_reducible apply lit_drew))); rintro e w3 ⟨n, rfl, hn7, hgn, hdn⟩; have hz3 := hdn.size; (repeat (with_reducible replace hgn := undrew hgn)); have b1 : (0 : Int) ≤ (n : Int) := (by omega); have b2 : (n : Int) ≤ (s.size : Int) := (by omega); have b3 : (s.extract 0 n).size ≤ 7 := (by rw [ByteArray.size_extract]; omega); (try ((with_reducible have hx3 := @x_grown1 _ _ _ hgn); replace hx3 := hx3 (by first | omega | (simp; omega)))); (try ((with_reducible have hx3 := @x_grown2 _ _ _ _ hgn); replace hx3 := hx3 (by first | omega | (simp; omega)))); (try with_reducible have hx3 := hx2.grown hgn); (try with_reducible have hx3 := hx2.grownA hgn)))
          | (go_at_call 56; refine (of_at wr R (q + 3 + 1) A c ns _ ?_ HAw.out hn1 hn2 HAR.out (by omega)).mono ?_; (focus with_reducible repeat' (first | exact HD0.out | assumption | apply Dst.alloc | apply Dst.drew)); rintro e w4 ⟨x, rfl, hx, hgo, hdo⟩; (repeat (with_reducible replace hgo := undrew hgo)); (try ((with_reducible have hx4 := @x_grown1 _ _ _ hgo); replace hx4 := hx4 (by first | omega | (simp; omega)))); (try with_reducible have hx4 := hx3.grown hgo); (try (have c0 := hx4.c0; have c1 := hx4.c1; have f0 := hx4.f0; have f1 := hx4.f1; try simp only [World.size_alloc] at c0 c1 f0 f1 hx4))))
        all_goals
          go_wp2_with fail
          go_meet
          first
            | exact fin_new hdo b3 (Hns.out x hx)
            | exact fin_set hx4 (by omega) hRw hdo b3 (Hns.out x hx)
      case rest =>
        obtain ⟨g, x, rfl, c0, c1, hx1, hx2, HdX⟩ := hcut
        have Ho2 := Lib.hid (own_past Ho.out hR HdX.out.grown)
        have HdY := Lib.hid (Hd.out.step HdX.out.grown HdX.out.reader)
        have Hi := Lib.hid (spec_idx (.slice C xs.length cp) xs x.1 wc (sl_own Ho2.out))
        have Hlen : Hid (∀ (i : Int), i < 0 ∨ 0 ≤ i) := Lib.hid fun i => by omega
        clear Ho Hd HdX
        go_wp2_with fail
        refine Hi.out.mono ?_
        rintro e w3 ⟨rfl, hb3⟩
        have c0' := cell_later hb3 c0
        have c1' := cell_later hb3 c1
        have Ho3 := Lib.hid (own_below Ho2.out hb3)
        have Hd3 := Lib.hid (HdY.out.below hb3)
        clear c0 c1 hb3 Hi Ho2 HdY
        generalize idxI xs x.1 = ix at *
        by_cases hix : ix < 0
        · obtain ⟨wn, hwn⟩ : ∃ wn, wn = w3.alloc (.cells #[.string x.1, .string x.2] 31) := ⟨_, rfl⟩
          have hbl : Below w3.heap.size w3 wn := by rw [hwn]; exact (Below.refl _ _).alloc (Nat.le_refl _) _
          have hnw : Rd wn (some ⟨w3.heap.size, 0, none⟩) (rcs [x]) := by rw [hwn]; exact rd_new w3 (rcs [x]) 31
          have Ho4 := Lib.hid (own_below Ho3.out hbl)
          have Hd4 := Lib.hid (Hd3.out.below hbl)
          have Hnw := Lib.hid hnw
          have Hbs : Hid (w.heap.size ≤ wn.heap.size) := Lib.hid Hd4.out.size
          clear hnw hbl Ho3 Hd3
          go_wp2_with (at_builtin; simp only [← hwn]; refine wpList_append_rd rfl (.tmp 31) (.tmp 33) 23 rfl rul_elem (base := w.heap.size) (.slice C xs.length cp) xs.length (rcs xs) rfl Ho4.out (some ⟨w3.heap.size, 0, none⟩) 1 1 (rcs [x]) rfl rfl Hnw.out (rcs_oneCell _) (by unfold maxLen; omega) (by omega) Hbs.out ?_; intro v5 w5 hown5 hg5 hm5)
          have Ho5 : Hid (w5.ownsRow w.heap.size 31 2 v5 (xs ++ [x]).length (rcs (xs ++ [x]))) := Lib.hid (by rw [List.length_append, show rcs (xs ++ [x]) = rcs xs ++ rcs [x] from cs2_append _ _]; exact hown5)
          have Hd5 := Lib.hid (Hd4.out.own hR hg5 (fun g e => (Ho4.out.lt g e).1))
          have Hx5 : Hid (∀ y ∈ xs ++ [x], y.1.size ≤ 7 ∧ y.2.size ≤ 8) := Lib.hid fun y hy => by
            rcases List.mem_append.1 hy with h | h
            · exact Hx.out y h
            · simp at h; subst h; exact ⟨hx1, hx2⟩
          have hl5 : (xs ++ [x]).length = xs.length + 1 := by simp
          clear hown5 hg5 hm5 Ho4 Hd4 Hnw Hx
          go_roundw
          case rel => exact ⟨k - 1, q + 5, _, _, by omega, by go_num, rfl, by omega, Hd5, Ho5, Hx5⟩
          case measure => simp [intOf]; omega
        · have hix' : ¬ ix < 0 := hix
          go_wp2_with fail
          go_roundw
          case rel => exact ⟨k - 1, q + 5, xs, _, by omega, by go_num, rfl, by omega, Hd3, Ho3, Hx⟩
          case measure => simp [intOf]; omega
    · have hk' : k = 0 := by omega
      subst hk'
      go_wp2_with fail
      go_ret
      exact ⟨_, xs, q, rfl, Ho.out, by omega, Hx.out, by omega, Hd.out⟩

end Go.Proofs.Ytkfbgoahppfelaa
