
/- The walks of the drawing kit: an element of a list, and the reader's beginning. -/
import Derived.Test.YtfhnjpjlpddpmaaDoorDraw
import Derived.Deep.WholeRow
namespace Go.Proofs.YtfhnjpjlpddpmaaDoor
open Go.RowKit
set_option linter.unusedVariables false

theorem num_any (R p : Nat) (A : Option Addr) (c : Nat) (xs : List Int) (w : World) (h : Reader w R p) (hp : p ≤ 1099511627776) (hA : Rd w A (ints xs)) (hx0 : 1 ≤ xs.length) (hxl : xs.length ≤ 1000) (hAR : ∀ ad, A = some ad → ad.block ≠ R) :
    Calls Tryd.prog 58 #[.pointer (some ⟨R, 0, none⟩), .slice A xs.length c] w fun e w' => ∃ x : Int, e = .returned (.int .i64 x) ∧ x ∈ xs ∧ Reader w' R (p + 1) ∧ w.grownBy w' (some R) := by
  have HAR := Lib.hid hAR
  clear hAR
  go_enter Tryd.func58, Tryd.ntmps58
  go_wp2_with fail
  refine (pick_any R p xs.length w h hp (by omega)).mono ?_
  rintro e w1 ⟨x, rfl, hx, hr1, hg1⟩
  have hx2 := hx.pos (by omega)
  obtain ⟨k, rfl⟩ : ∃ k : Nat, x = (k : Int) := ⟨x.toNat, by omega⟩
  have hA1 := hA.grown hg1 (fun ad e e2 => HAR.out ad e (by injection e2))
  obtain ⟨ad, y, rfl, hy, hc⟩ := hA1.int (k := k) (by omega)
  have Hy := Lib.hid hy
  have Hr := Lib.hid hr1
  have Hg := Lib.hid hg1
  have hkl : k < xs.length := by omega
  clear hy hx hx2 hr1 hg1
  go_wp2_with fail
  go_ret
  exact ⟨y, rfl, List.mem_of_getElem? Hy.out, Hr.out, Hg.out⟩

/-- The cells of a list that is written out. -/
theorem rd_lit (w : World) (cs : Array Value) (e : TypeId) : Rd (w.alloc (.cells cs e)) (some ⟨w.heap.size, 0, none⟩) cs.toList := fun j u hu => by
  refine ⟨_, rfl, ?_⟩
  have e1 : (⟨w.heap.size, 0, none⟩ : Addr).add j = ⟨w.heap.size, j, none⟩ := by simp [Addr.add]; exact fun h => h.symm
  rw [e1, World.cell?_alloc_at _ _ _ _ rfl]
  simpa using hu
/-- Steps of a call that draws: only the reader's block and blocks of its own change. -/
theorem drawn_alloc {w0 w : World} {R : Nat} (h : w0.grownBy w (some R)) (o : Obj) : w0.grownBy (w.alloc o) (some R) := by
  have hb : Below w.heap.size w (w.alloc o) := (Below.refl _ _).alloc (Nat.le_refl _) o
  exact ⟨hb.os.trans h.os, hb.tape.trans h.tape, hb.output.trans h.output, Nat.le_trans h.size hb.size, fun k hk hr => (hb.block k (Nat.lt_of_lt_of_le hk h.size)).trans (h.block k hk hr)⟩
theorem drawn_step {w0 w w' : World} {R : Nat} (h : w0.grownBy w (some R)) (k : w.grownBy w' (some R)) : w0.grownBy w' (some R) :=
  ⟨k.os.trans h.os, k.tape.trans h.tape, k.output.trans h.output, Nat.le_trans h.size k.size, fun j hj hr => (k.block j (Nat.lt_of_lt_of_le hj h.size) hr).trans (h.block j hj hr)⟩
theorem drawn_own {w0 w w' : World} {R : Nat} {row : Option Nat} (h : w0.grownBy w (some R)) (k : w.grownBy w' row) (hrow : ∀ g, row = some g → w0.heap.size ≤ g) : w0.grownBy w' (some R) :=
  ⟨k.os.trans h.os, k.tape.trans h.tape, k.output.trans h.output, Nat.le_trans h.size k.size, fun j hj hr => (k.block j (Nat.lt_of_lt_of_le hj h.size) (fun e => by have := hrow j e.symm; omega)).trans (h.block j hj hr)⟩

/-- A call that draws has come so far: only the reader's block and blocks of its own changed, and the reader is at p. -/
structure Dst (w0 : World) (R p : Nat) (w : World) : Prop where
  grown : w0.grownBy w (some R)
  reader : Reader w R p
theorem Dst.start {w : World} {R p : Nat} (h : Reader w R p) : Dst w R p w := ⟨⟨rfl, rfl, rfl, Nat.le_refl _, fun _ _ _ => rfl⟩, h⟩
theorem Dst.lt {w0 w : World} {R p : Nat} (h : Dst w0 R p w) : R < w.heap.size := h.reader.lt
theorem Dst.size {w0 w : World} {R p : Nat} (h : Dst w0 R p w) : w0.heap.size ≤ w.heap.size := h.grown.size
theorem Dst.step {w0 w w' : World} {R p q : Nat} (h : Dst w0 R p w) (k : w.grownBy w' (some R)) (r : Reader w' R q) : Dst w0 R q w' := ⟨drawn_step h.grown k, r⟩
theorem Dst.below {w0 w w' : World} {R p : Nat} (h : Dst w0 R p w) (k : Below w.heap.size w w') : Dst w0 R p w' :=
  ⟨drawn_step h.grown ⟨k.os, k.tape, k.output, k.size, fun j hj _ => k.block j hj⟩, h.reader.below k⟩
theorem Dst.alloc {w0 w : World} {R p : Nat} (h : Dst w0 R p w) (o : Obj) : Dst w0 R p (w.alloc o) := h.below ((Below.refl _ _).alloc (Nat.le_refl _) o)
theorem Dst.drewN {w0 w : World} {R p : Nat} (h : Dst w0 R p w) (n : Nat) : Dst w0 R p (w.drewN n) := h.below (below_of_drewN w n)
theorem Dst.own {w0 w w' : World} {R p : Nat} {row : Option Nat} (h : Dst w0 R p w) (hR : R < w0.heap.size) (k : w.grownBy w' row) (hrow : ∀ g, row = some g → w0.heap.size ≤ g) : Dst w0 R p w' :=
  ⟨drawn_own h.grown k hrow, h.reader.upto (B := w0.heap.size) ⟨k.os, k.tape, k.output, k.size, fun j hj => k.block j (Nat.lt_of_lt_of_le hj h.grown.size) (fun e => by have := hrow j e.symm; omega)⟩ hR⟩

/-- The draw of an element of a list that is written out just before. -/
theorem num_lit (R p : Nat) (K n : Nat) (cs : Array Value) (xs : List Int) (w : World) (h : Reader w R p) (hp : p ≤ 1099511627776) (hK : K = w.heap.size) (hn : n = xs.length) (hcs : cs.toList = ints xs) (hx0 : 1 ≤ xs.length) (hxl : xs.length ≤ 1000) :
    Calls Tryd.prog 58 #[.pointer (some ⟨R, 0, none⟩), .slice (some ⟨K, 0, none⟩) n n] (w.alloc (.cells cs 3)) fun e w' => ∃ x : Int, e = .returned (.int .i64 x) ∧ x ∈ xs ∧ Reader w' R (p + 1) ∧ w.grownBy w' (some R) := by
  subst hK hn
  have hb : Below w.heap.size w (w.alloc (.cells cs 3)) := (Below.refl _ _).alloc (Nat.le_refl _) _
  have hl := h.lt
  refine (num_any R p (some ⟨w.heap.size, 0, none⟩) xs.length xs _ (h.below hb) hp (by rw [← hcs]; exact rd_lit w cs _) hx0 hxl (by rintro ad e; cases e; simp; omega)).mono ?_
  rintro e w' ⟨x, rfl, hx, hr, hg⟩
  exact ⟨x, rfl, hx, hr, drawn_step (drawn_alloc ((⟨rfl, rfl, rfl, Nat.le_refl _, fun _ _ _ => rfl⟩ : w.grownBy w (some R))) _) hg⟩

theorem open_post (A : Option Addr) (c : Nat) (bs : List Int) (w : World) (hA : Rd w A (bytes bs)) (hb : ∀ x ∈ bs, 0 ≤ x ∧ x ≤ 255) (hl : bs.length ≤ 1048576) (hc : bs.length ≤ c) :
    Reader (w.alloc (.cells #[.slice A bs.length c, .int .i64 0] 70)) w.heap.size 0 ∧ Below w.heap.size w (w.alloc (.cells #[.slice A bs.length c, .int .i64 0] 70)) ∧ w.heap.size < (w.alloc (.cells #[.slice A bs.length c, .int .i64 0] 70)).heap.size := by
  have hbl : Below w.heap.size w (w.alloc (.cells #[.slice A bs.length c, .int .i64 0] 70)) := (Below.refl _ _).alloc (Nat.le_refl _) _
  refine ⟨⟨A, c, bs, heap_alloc_last _ _, hA.below hbl, hb, hl, hc, fun ad e hbs => ?_⟩, hbl, (Array.getElem?_eq_some_iff.1 (heap_alloc_last w _)).1⟩
  subst e
  cases bs with
  | nil => exact absurd rfl hbs
  | cons x xs =>
    obtain ⟨ad2, e, h⟩ := hA 0 _ rfl
    injection e with e
    subst e
    have := World.block_lt_of_cell? w _ h
    rwa [addr_add_block] at this
theorem bytes_take (bs : List Int) (n : Nat) : (bytes bs).take n = bytes (bs.take n) := by simp [bytes, List.map_take]

set_option maxHeartbeats 400000 in
theorem open_any (A : Option Addr) (c : Nat) (bs : List Int) (w : World) (hA : Rd w A (bytes bs)) (hb : ∀ x ∈ bs, 0 ≤ x ∧ x ≤ 255) (hl : bs.length ≤ 1048576) (hc : bs.length ≤ c) :
    Calls Tryd.prog 37 #[.slice A bs.length c] w fun e w' => e = .returned (.pointer (some ⟨w.heap.size, 0, none⟩)) ∧ Reader w' w.heap.size 0 ∧ Below w.heap.size w w' ∧ w.heap.size < w'.heap.size := by
  by_cases hlt : 2000 < bs.length
  · have hl2 : (bs.take 2000).length = 2000 := by simp; omega
    have h := open_post A c (bs.take 2000) w (by rw [← bytes_take]; exact hA.take 2000) (fun x hx => hb x (List.mem_of_mem_take hx)) (by omega) (by omega)
    rw [hl2] at h
    have H := Lib.hid h
    clear h
    go_enter Tryd.func37, Tryd.ntmps37
    go_wp2_with fail
    go_ret
    exact ⟨rfl, H.out⟩
  · have H := Lib.hid (open_post A c bs w hA hb hl hc)
    go_enter Tryd.func37, Tryd.ntmps37
    go_wp2_with fail
    go_ret
    exact ⟨rfl, H.out⟩

theorem dst_below {w w1 w2 : World} {p : Nat} (hb : Below w.heap.size w w1) (hl : w.heap.size < w1.heap.size) (h : Dst w1 w.heap.size p w2) : Below w.heap.size w w2 :=
  ⟨h.grown.os.trans hb.os, h.grown.tape.trans hb.tape, h.grown.output.trans hb.output, Nat.le_trans hb.size h.grown.size, fun k hk => (h.grown.block k (by omega) (fun e => by injection e with e; omega)).trans (hb.block k hk)⟩
theorem rd_drawn {w w' : World} {R : Nat} {A : Option Addr} {cs : List Value} (h : Rd w A cs ∧ ∀ ad, A = some ad → ad.block ≠ R) (hg : w.grownBy w' (some R)) : Rd w' A cs := h.1.grown hg (fun ad e e2 => h.2 ad e (by injection e2))
/-- The bytes of a code. -/
structure Coded (w : World) (A : Option Addr) (bs : List Int) (c : Nat) : Prop where
  rd : Rd w A (bytes bs)
  byte : ∀ x ∈ bs, 0 ≤ x ∧ x ≤ 255
  len : bs.length ≤ 1048576
  cap : bs.length ≤ c
structure Coded0 (w : World) (A : Option Addr) (bs : List Int) (c : Nat) : Prop where
  rd : Rd w A (bytes bs)
  byte : ∀ x ∈ bs, 0 ≤ x ∧ x ≤ 255
  len : bs.length ≤ maxLen
  cap : bs.length ≤ c
theorem Coded0.coded {w : World} {A : Option Addr} {bs : List Int} {c : Nat} (h : Coded0 w A bs c) (hl : ¬ 1048576 < bs.length) : Coded w A bs c := ⟨h.rd, h.byte, by omega, h.cap⟩
theorem Coded.below {w w' : World} {A : Option Addr} {bs : List Int} {c : Nat} (h : Coded w A bs c) (hb : Below w.heap.size w w') : Coded w' A bs c := ⟨h.rd.below hb, h.byte, h.len, h.cap⟩
theorem coded_open {w : World} {A : Option Addr} {bs : List Int} {c : Nat} (h : Coded w A bs c) :
    Calls Tryd.prog 37 #[.slice A bs.length c] w fun e w' => e = .returned (.pointer (some ⟨w.heap.size, 0, none⟩)) ∧ Reader w' w.heap.size 0 ∧ Below w.heap.size w w' ∧ w.heap.size < w'.heap.size := open_any A c bs w h.rd h.byte h.len h.cap

end Go.Proofs.YtfhnjpjlpddpmaaDoor
