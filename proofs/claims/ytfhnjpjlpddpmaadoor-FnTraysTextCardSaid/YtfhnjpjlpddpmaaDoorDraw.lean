
/- The walks of the drawing kit: a reader of a code's bytes. -/
import Derived.Test.YtfhnjpjlpddpmaaDoorRows
import Derived.Test.YtfhnjpjlpddpmaaDoorMem
import Derived.Laws.BitsAllLaws
import Derived.Laws.BitsLemmas
namespace Go.Proofs.YtfhnjpjlpddpmaaDoor
open Go.RowKit
set_option linter.unusedVariables false

def bytes (bs : List Int) : List Value := bs.map (Value.int .u8)
theorem bytes_get {bs : List Int} {k : Nat} {x : Int} (h : bs[k]? = some x) : (bytes bs)[k]? = some (.int .u8 x) := by simp [bytes, h]
theorem Rd.byte {w : World} {A : Option Addr} {bs : List Int} (h : Rd w A (bytes bs)) {k : Nat} (hk : k < bs.length) :
    ∃ ad x, A = some ad ∧ bs[k]? = some x ∧ w.cell? (ad.add k) = some (.int .u8 x) := by
  obtain ⟨ad, e, hc⟩ := h k _ (bytes_get (List.getElem?_eq_getElem hk))
  exact ⟨ad, bs[k], e, List.getElem?_eq_getElem hk, hc⟩

/-- A reader in block R, that has drawn p numbers. -/
def Reader (w : World) (R : Nat) (p : Nat) : Prop :=
  ∃ (A : Option Addr) (c : Nat) (bs : List Int), w.heap[R]? = some (.cells #[.slice A bs.length c, .int .i64 (p : Int)] 70 (0, 0)) ∧ Rd w A (bytes bs) ∧ (∀ x ∈ bs, 0 ≤ x ∧ x ≤ 255) ∧ bs.length ≤ 1048576 ∧ bs.length ≤ c ∧ (∀ ad, A = some ad → bs ≠ [] → ad.block < R)

theorem Reader.lt {w : World} {R p : Nat} (h : Reader w R p) : R < w.heap.size := by
  obtain ⟨_, _, _, hb, _⟩ := h
  exact (Array.getElem?_eq_some_iff.1 hb).1
theorem Reader.below {w w' : World} {R p : Nat} (h : Reader w R p) (hb : Below w.heap.size w w') : Reader w' R p := by
  have hl := h.lt
  obtain ⟨A, c, bs, h1, h2, h3⟩ := h
  exact ⟨A, c, bs, (hb.block R hl).trans h1, h2.below hb, h3⟩
theorem Reader.upto {w w' : World} {R p B : Nat} (h : Reader w R p) (hb : Below B w w') (hR : R < B) : Reader w' R p := by
  obtain ⟨A, c, bs, h1, h2, h3, h4, h5, h6⟩ := h
  refine ⟨A, c, bs, (hb.block R hR).trans h1, fun j u hu => ?_, h3, h4, h5, h6⟩
  obtain ⟨ad, e, hc⟩ := h2 j u hu
  have hbs : bs ≠ [] := by rintro rfl; simp [bytes] at hu
  have := h6 ad e hbs
  exact ⟨ad, e, (hb.cell (by rw [addr_add_block]; omega)).trans hc⟩
theorem Reader.drewN {w : World} {R p : Nat} (h : Reader w R p) (n : Nat) : Reader (w.drewN n) R p := h.below (below_of_drewN w n)

theorem ofInt_i64' (a : Nat) (ha : a < 9223372036854775808) : (BitVec.ofInt 64 (a : Int)).toNat = a := by
  rw [BitVec.ofInt_natCast, BitVec.toNat_ofNat]; exact Nat.mod_eq_of_lt (by omega)
theorem xor_nat (a b : Nat) (ha : a < 9223372036854775808) (hb : b < 9223372036854775808) : ∃ c : Nat, bits .xor .i64 (a : Int) (b : Int) = (c : Int) ∧ c < 9223372036854775808 := by
  have hx : a ^^^ b < 2 ^ 63 := Nat.xor_lt_two_pow (by omega) (by omega)
  refine ⟨a ^^^ b, ?_, by omega⟩
  show IntKind.i64.wrap ((BitVec.ofInt 64 (a : Int) ^^^ BitVec.ofInt 64 (b : Int)).toNat : Int) = _
  rw [BitVec.toNat_xor, ofInt_i64' a ha, ofInt_i64' b hb, IntKind.wrap_i64]
  omega

/-- What a drawn number is. -/
def Picked (n x : Int) : Prop := (1 ≤ n → 0 ≤ x ∧ x < n) ∧ (n < 1 → x = 0)
theorem Picked.pos {n x : Int} (h : Picked n x) (hn : 1 ≤ n) : 0 ≤ x ∧ x < n := h.1 hn

set_option maxHeartbeats 1600000 in
theorem pick_any (R p : Nat) (n : Int) (w : World) (h : Reader w R p) (hp : p ≤ 1099511627776) (hn : n ≤ 1099511627776) :
    Calls Tryd.prog 45 #[.pointer (some ⟨R, 0, none⟩), .int .i64 n] w fun e w' => ∃ x : Int, e = .returned (.int .i64 x) ∧ Picked n x ∧ Reader w' R (p + 1) ∧ w.grownBy w' (some R) := by
  have hRl := h.lt
  obtain ⟨A, c, bs, hblk, hrd, hbd, hl20, hlc, hne⟩ := h
  have c0 : w.cell? ⟨R, 0, none⟩ = some (.slice A bs.length c) := by rw [cell_of_row _ _ _ _ _ _ hblk]; rfl
  have c1 : w.cell? ⟨R, 1, none⟩ = some (.int .i64 (p : Int)) := by rw [cell_of_row _ _ _ _ _ _ hblk]; rfl
  have f1 : w.frozen? ⟨R, 1, none⟩ = false := by simp [World.frozen?, hblk]
  have post : Reader (w.setCell ⟨R, 1, none⟩ (.int .i64 ((p : Int) + 1))) R (p + 1) ∧ w.grownBy (w.setCell ⟨R, 1, none⟩ (.int .i64 ((p : Int) + 1))) (some R) := by
    have hg : w.grownBy (w.setCell ⟨R, 1, none⟩ (.int .i64 ((p : Int) + 1))) (some R) := ⟨rfl, rfl, rfl, by simp, fun k _ hk => heap_setCell_other w ⟨R, 1, none⟩ k _ (fun e => hk (by simp [e]))⟩
    refine ⟨⟨A, c, bs, ?_, ?_, hbd, hl20, hlc, hne⟩, hg⟩
    · have := heap_setCell_same w R 1 _ _ (.int .i64 ((p : Int) + 1)) hblk
      rw [this]; rfl
    · intro j u hu
      obtain ⟨ad, e, hc⟩ := hrd j u hu
      have hbs : bs ≠ [] := by rintro rfl; simp [bytes] at hu
      exact ⟨ad, e, hg.cell hc (by rw [addr_add_block]; intro e2; injection e2 with e2; have := hne ad e hbs; omega)⟩
  have Post := Lib.hid post
  have Hbd := Lib.hid hbd
  have Hrd := Lib.hid hrd
  have Hne := Lib.hid hne
  clear post hbd hrd hblk hne
  by_cases hn1 : n < 1
  · go_enter Tryd.func45, Tryd.ntmps45
    go_wp2_with fail
    go_ret
    exact ⟨0, rfl, ⟨fun h => by omega, fun _ => rfl⟩, Post.out⟩
  by_cases hl0 : bs.length = 0
  · have hz0 : ((bs.length : Int) == 0) = true := by simp [hl0]
    have Hl0 := Lib.hid hl0
    clear hl0
    go_enter Tryd.func45, Tryd.ntmps45
    go_wp2_with fail
    go_ret
    refine ⟨0, rfl, ⟨fun h => by omega, fun _ => rfl⟩, Post.out⟩
  have hz0 : ((bs.length : Int) == 0) = false := by simp only [beq_eq_false_iff_ne]; omega
  have hpw : IntKind.i64.wrap ((p : Int) + 1 - 1) = (p : Int) := by rw [IntKind.wrap_i64]; omega
  have hgn : ∀ k, k < bs.length → ∃ ad x, A = some ad ∧ bs[k]? = some x ∧ (w.setCell ⟨R, 1, none⟩ (.int .i64 ((p : Int) + 1))).cell? (ad.add k) = some (.int .u8 x) := fun k hk => by
    obtain ⟨ad, x, e, hx, hc⟩ := Hrd.out.byte hk
    have hbs : bs ≠ [] := by rintro rfl; simp at hk
    exact ⟨ad, x, e, hx, Post.out.2.cell hc (by rw [addr_add_block]; intro e2; injection e2 with e2; have := Hne.out ad e hbs; omega)⟩
  by_cases hpl : p < bs.length
  · obtain ⟨ad, x, hA, hx, hc⟩ := hgn p hpl
    have hb := Hbd.out x (List.mem_of_getElem? hx)
    subst hA
    have HX := Lib.hid hx
    clear hx
    go_enter Tryd.func45, Tryd.ntmps45
    go_wp2_with fail
    go_ret
    exact ⟨x % n, rfl, ⟨fun _ => ⟨Int.emod_nonneg _ (by omega), Int.emod_lt_of_pos _ (by omega)⟩, fun h => by omega⟩, Post.out⟩
  obtain ⟨ad1, x1, hA, hx1, hc1⟩ := hgn (p % bs.length) (Nat.mod_lt _ (by omega))
  obtain ⟨ad2, x2, hA2, hx2, hc2⟩ := hgn ((p * 7 + 3) % bs.length) (Nat.mod_lt _ (by omega))
  have e12 : ad1 = ad2 := by rw [hA] at hA2; exact Option.some.inj hA2
  subst e12
  subst hA
  have hb1 := Hbd.out x1 (List.mem_of_getElem? hx1)
  have hb2 := Hbd.out x2 (List.mem_of_getElem? hx2)
  obtain ⟨k1, hk1⟩ : ∃ k1, k1 = p % bs.length := ⟨_, rfl⟩
  obtain ⟨k2, hk2⟩ : ∃ k2, k2 = (p * 7 + 3) % bs.length := ⟨_, rfl⟩
  obtain ⟨d, hd⟩ : ∃ d, d = p / bs.length := ⟨_, rfl⟩
  have hk1l : k1 < bs.length := by rw [hk1]; exact Nat.mod_lt _ (by omega)
  have hk2l : k2 < bs.length := by rw [hk2]; exact Nat.mod_lt _ (by omega)
  have hdl : d ≤ p := by rw [hd]; exact Nat.div_le_self _ _
  rw [← hk1] at hc1
  rw [← hk2] at hc2
  have q1 : ((p : Int) % (bs.length : Int)) = (k1 : Int) := by rw [hk1]; omega
  have q2 : (((p : Int) * 7 + 3) % (bs.length : Int)) = (k2 : Int) := by rw [hk2, Int.natCast_emod]; simp
  have q3 : ((p : Int) / (bs.length : Int)) = (d : Int) := by rw [hd]; omega
  have Hx := Lib.hid (And.intro hx1 hx2)
  have Hk := Lib.hid (And.intro hk1 (And.intro hk2 hd))
  clear hx1 hx2 hk1 hk2 hd
  go_enter Tryd.func45, Tryd.ntmps45
  go_wp2_with fail
  go_quiet (fail)
  obtain ⟨xn, hxn⟩ : ∃ xn : Nat, (xn : Int) = x1 * 131 + x2 * 1117 + (p : Int) * 29 + (d : Int) * 53 := ⟨(x1 * 131 + x2 * 1117 + (p : Int) * 29 + (d : Int) * 53).toNat, by omega⟩
  have hxl : xn < 4611686018427387904 := by omega
  obtain ⟨m, hm⟩ : ∃ m : Nat, m = xn / 64 := ⟨_, rfl⟩
  have q4 : ((xn : Int) / 64) = (m : Int) := by omega
  have hml : m ≤ xn := by omega
  obtain ⟨y, hy, hyl⟩ := xor_nat xn m (by omega) (by omega)
  rw [← hxn]
  have Hxn := Lib.hid hxn
  have Hm := Lib.hid hm
  clear hxn hm
  go_wp2_with fail
  go_ret
  refine ⟨(y : Int) % n, rfl, ⟨fun _ => ⟨Int.emod_nonneg _ (by omega), Int.emod_lt_of_pos _ (by omega)⟩, fun h => by omega⟩, Post.out.1.drewN _, grown_drewN Post.out.2 _⟩

end Go.Proofs.YtfhnjpjlpddpmaaDoor
