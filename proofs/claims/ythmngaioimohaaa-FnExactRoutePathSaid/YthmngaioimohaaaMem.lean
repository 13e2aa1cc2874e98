
/- Words for memory used by all texts of this seat: a slice that reads as a list of cells; a slice of ints as a list of numbers. No program in sight. -/
import Derived.Handy
import Derived.Lib.Hide
import Derived.Deep.QuietTactic
import Derived.BigQuiet
import Derived.Deep.Draws
import Derived.Laws.OwnMore
import Derived.StillTailTactics
import Derived.RegionTactic
import Derived.BigRegion
import Derived.WalkLawsBesides
import Derived.WalkSpells
namespace Go.Proofs.Ythmngaioimohaaa
open Go.RowKit
set_option linter.unusedVariables false

/-- The slice with address A reads the cells cs in the world w. -/
def Rd (w : World) (A : Option Addr) (cs : List Value) : Prop :=
  ∀ (j : Nat) (u : Value), cs[j]? = some u → ∃ ad, A = some ad ∧ w.cell? (ad.add j) = some u

theorem addr_add_block (a : Addr) (n : Nat) : (a.add n).block = a.block := by unfold Addr.add; split <;> rfl

theorem Rd.nil (w : World) (A : Option Addr) : Rd w A [] := fun j u h => by simp at h
theorem Rd.below {w w' : World} {A : Option Addr} {cs : List Value} (h : Rd w A cs) (hb : Below w.heap.size w w') : Rd w' A cs := fun j u hu => by
  obtain ⟨ad, e, hc⟩ := h j u hu
  exact ⟨ad, e, (hb.cell (World.block_lt_of_cell? w _ hc)).trans hc⟩
/-- .. behind a change of one block that is not the slice's. -/
theorem Rd.grown {w w' : World} {A : Option Addr} {cs : List Value} {row : Option Nat} (h : Rd w A cs) (hb : w.grownBy w' row) (hne : ∀ ad, A = some ad → some ad.block ≠ row) : Rd w' A cs := fun j u hu => by
  obtain ⟨ad, e, hc⟩ := h j u hu
  exact ⟨ad, e, hb.cell hc (by rw [addr_add_block]; exact hne ad e)⟩
theorem Rd.take {w : World} {A : Option Addr} {cs : List Value} (h : Rd w A cs) (n : Nat) : Rd w A (cs.take n) := fun j u hu => by
  rw [List.getElem?_take] at hu
  split at hu
  · exact h j u hu
  · cases hu

/-- Below, spelled for a world that is one block and draws away. -/
theorem below_drewN {B : Nat} {a w : World} (h : Below B a w) (n : Nat) : Below B a (w.drewN n) := ⟨h.os, h.tape, h.output, h.size, h.block⟩
theorem below_of_drewN (w : World) (n : Nat) : Below w.heap.size w (w.drewN n) := below_drewN (Below.refl _ _) n
theorem below_trans' {a b c : World} (h : Below a.heap.size a b) (k : Below b.heap.size b c) : Below a.heap.size a c := h.trans (k.mono h.size)
theorem below_step {B : Nat} {a b c : World} (h : Below B a b) (hB : B ≤ b.heap.size) (k : Below b.heap.size b c) : Below B a c := h.trans (k.mono hB)

/-- What a slice of the call's own reads; its shape. -/
theorem own_form {w : World} {base : Nat} {e : TypeId} {size : Nat} {v : Value} {n : Nat} {cs : List Value} (h : w.ownsRow base e size v n cs) :
    ∃ A c, v = .slice A n c ∧ n ≤ c ∧ c ≤ maxLen ∧ Rd w A cs ∧ ∀ ad, A = some ad → ∃ g, ad = ⟨g, 0, none⟩ ∧ base ≤ g ∧ g < w.heap.size := by
  rcases h.2 with ⟨rfl, rfl⟩ | ⟨g, cap, cur, rfl, hb, hg, hn, hm, _, _⟩
  · refine ⟨none, 0, rfl, Nat.le_refl _, by unfold maxLen; omega, ?_, fun ad e => by cases e⟩
    have : cs = [] := List.eq_nil_of_length_eq_zero (by simpa using h.1)
    subst this
    exact Rd.nil _ _
  · refine ⟨_, cap, rfl, hn, hm, fun j u hu => ⟨_, rfl, h.cells (g := g) rfl j u hu⟩, fun ad e => ?_⟩
    injection e with e
    subst e
    exact ⟨g, rfl, hb, (Array.getElem?_eq_some_iff.1 hg).1⟩

theorem own_below {w w' : World} {base : Nat} {e : TypeId} {size : Nat} {v : Value} {n : Nat} {cs : List Value} (h : w.ownsRow base e size v n cs) (hb : Below w.heap.size w w') : w'.ownsRow base e size v n cs :=
  h.kept (row := none) ⟨hb.os, hb.tape, hb.output, hb.size, fun k hk _ => hb.block k hk⟩ (by cases v.ownBlock <;> simp)

theorem own_base {w : World} {base base' : Nat} {e : TypeId} {size : Nat} {v : Value} {n : Nat} {cs : List Value} (h : w.ownsRow base e size v n cs) (hb : base' ≤ base) : w.ownsRow base' e size v n cs := by
  refine ⟨h.1, ?_⟩
  rcases h.2 with h0 | ⟨g, cap, cur, hv, hg, r⟩
  · exact .inl h0
  · exact .inr ⟨g, cap, cur, hv, by omega, r⟩

/-- A list of numbers, as cells. -/
def ints (xs : List Int) : List Value := xs.map (Value.int .i64)
theorem ints_length (xs : List Int) : (ints xs).length = xs.length := by simp [ints]
theorem ints_get {xs : List Int} {k : Nat} {x : Int} (h : xs[k]? = some x) : (ints xs)[k]? = some (.int .i64 x) := by simp [ints, h]
theorem ints_append (xs ys : List Int) : ints (xs ++ ys) = ints xs ++ ints ys := by simp [ints]
theorem ints_one (x : Int) : ints [x] = [.int .i64 x] := rfl
theorem ints_oneCell (xs : List Int) : ∀ u ∈ ints xs, u.oneCell' = true := by
  intro u hu
  simp only [ints, List.mem_map] at hu
  obtain ⟨x, _, rfl⟩ := hu
  rfl

/-- Element k of a slice of ints: its address, its number, its cell. -/
theorem Rd.int {w : World} {A : Option Addr} {xs : List Int} (h : Rd w A (ints xs)) {k : Nat} (hk : k < xs.length) :
    ∃ ad x, A = some ad ∧ xs[k]? = some x ∧ w.cell? (ad.add k) = some (.int .i64 x) := by
  obtain ⟨ad, e, hc⟩ := h k _ (ints_get (List.getElem?_eq_getElem hk))
  exact ⟨ad, xs[k], e, List.getElem?_eq_getElem hk, hc⟩

theorem take_snoc {α : Type} {xs : List α} {k : Nat} {x : α} (h : xs[k]? = some x) : xs.take (k + 1) = xs.take k ++ [x] := by
  rw [List.take_add_one, h]; rfl

/-- Row ys has the first k of xs. -/
structure Filled {α : Type} (ys xs : List α) (k : Nat) : Prop where
  len : ys.length = xs.length
  head : ys.take k = xs.take k
theorem Filled.start {α : Type} {xs : List α} {z : α} : Filled (List.replicate xs.length z) xs 0 := ⟨by simp, rfl⟩
theorem Filled.step {α : Type} {ys xs : List α} {k : Nat} {x : α} (h : Filled ys xs k) (hx : xs[k]? = some x) : Filled (ys.set k x) xs (k + 1) := by
  obtain ⟨hk, _⟩ := List.getElem?_eq_some_iff.1 hx
  refine ⟨by simp [h.len], ?_⟩
  rw [take_snoc hx, ← h.head, take_snoc (x := x) (by rw [List.getElem?_set_self (by rw [h.len]; exact hk)]), List.take_set_of_le (Nat.le_refl _)]
theorem Filled.done {α : Type} {ys xs : List α} (h : Filled ys xs xs.length) : ys = xs := by
  have := h.head
  rwa [List.take_length, ← h.len, List.take_length] at this

theorem made_toList (z : Value) (n : Nat) : (madeCells #[z] n).toList = List.replicate n z := by
  apply List.ext_getElem
  · simp [madeCells]
  · intro i h1 h2
    simp [madeCells, Nat.mod_one]
theorem made_ints (n : Nat) : (madeCells (Value.int .i64 0).cells (n * 1)).toList = ints (List.replicate n 0) := by
  have : (Value.int .i64 0).cells = #[.int .i64 0] := rfl
  rw [this, Nat.mul_one, made_toList, ints, List.map_replicate]
theorem ints_set (xs : List Int) (k : Nat) (x : Int) : (ints xs).set k (.int .i64 x) = ints (xs.set k x) := by simp [ints, List.map_set]

/-- A slice of ints of the call's own, in blocks from B on. -/
def OwnI (w : World) (B : Nat) (v : Value) (xs : List Int) : Prop := ∃ A c, v = .slice A xs.length c ∧ w.ownsRow B 3 1 v xs.length (ints xs)
theorem ownI_nil (w : World) (B : Nat) : OwnI w B (.slice none 0 0) [] := ⟨none, 0, rfl, World.ownsRow_nil _ _ _ _⟩
theorem ownI_of {w : World} {B n : Nat} {A : Option Addr} {c : Nat} {xs : List Int} (h : w.ownsRow B 3 1 (.slice A n c) n (ints xs)) : OwnI w B (.slice A n c) xs := by
  have hl : xs.length = n := by have := h.1; rw [ints_length] at this; omega
  subst hl
  exact ⟨A, c, rfl, h⟩
theorem ownI_lit0 (w : World) : OwnI (w.alloc (.cells #[] 3)) w.heap.size (.slice (some ⟨w.heap.size, 0, none⟩) 0 0) [] :=
  ownI_of (World.ownsRow_lit w #[] 0 (Nat.le_refl _) (Nat.zero_le _) rfl)
theorem OwnI.below {w w' : World} {B : Nat} {v : Value} {xs : List Int} (h : OwnI w B v xs) (hb : Below w.heap.size w w') : OwnI w' B v xs := by
  obtain ⟨A, c, hv, ho⟩ := h
  exact ⟨A, c, hv, own_below ho hb⟩
theorem OwnI.base {w : World} {B B' : Nat} {v : Value} {xs : List Int} (h : OwnI w B v xs) (hb : B' ≤ B) : OwnI w B' v xs := by
  obtain ⟨A, c, hv, ho⟩ := h
  exact ⟨A, c, hv, own_base ho hb⟩
/-- What it reads. -/
theorem OwnI.rd {w : World} {B : Nat} {v : Value} {xs : List Int} (h : OwnI w B v xs) : ∃ A c, v = .slice A xs.length c ∧ Rd w A (ints xs) ∧ xs.length ≤ maxLen := by
  obtain ⟨A, c, hv, ho⟩ := h
  obtain ⟨A', c', hv', hn, hm, hr, _⟩ := own_form ho
  have := hv.symm.trans hv'
  injection this with h1 h2 h3
  subst h1 h3
  exact ⟨A, c, hv, hr, by omega⟩

/-- Two slices lie in different blocks. -/
def Apart (v u : Value) : Prop := ∀ g, v.ownBlock = some g → u.ownBlock ≠ some g
theorem Apart.symm {v u : Value} (h : Apart v u) : Apart u v := fun g hu hv => h g hv hu
theorem own_apart {w w2 : World} {base base2 : Nat} {e e2 : TypeId} {size size2 : Nat} {v v2 : Value} {n n2 : Nat} {cs cs2 : List Value}
    (h : w.ownsRow base e size v n cs) (h2 : w2.ownsRow base2 e2 size2 v2 n2 cs2) (hlt : w.heap.size ≤ base2) : Apart v v2 := fun g hg hg2 => by
  have := (h.lt g hg).2
  have := (h2.lt g hg2).1
  omega
theorem apart_row {v u : Value} (h : Apart v u) : v.ownBlock = none ∨ v.ownBlock ≠ u.ownBlock := by
  cases hv : v.ownBlock with
  | none => exact .inl rfl
  | some g => exact .inr fun e => h g hv e.symm
theorem below_grown {B : Nat} {a w w' : World} {v : Value} (h : Below B a w) (hB : B ≤ w.heap.size) (hg : w.grownBy w' v.ownBlock) (hv : ∀ g, v.ownBlock = some g → B ≤ g) : Below B a w' := h.grown hg hB hv
theorem OwnI.rdn {w : World} {B n : Nat} {v : Value} {xs : List Int} (h : OwnI w B v xs) (hl : xs.length = n) : ∃ A c, v = .slice A n c ∧ Rd w A (ints xs) ∧ n ≤ maxLen := by
  subst hl; exact h.rd
/-- A new cell, for append. -/
theorem cell_new1 (w : World) (u : Value) (e : TypeId) : ∀ (j : Nat) (x : Value), [u][j]? = some x → (w.alloc (.cells #[u] e)).cell? ((⟨w.heap.size, 0, none⟩ : Addr).add j) = some x := by
  intro j x hj
  match j, hj with
  | 0, hj =>
    simp at hj
    subst hj
    simp only [Addr.add_zero']
    rw [cell_of_row _ _ _ _ _ _ (heap_alloc_new w _)]
    rfl
theorem oneCell1 {k : IntKind} (x : Int) : ∀ u ∈ [Value.int k x], u.oneCell' = true := by intro u hu; simp at hu; subst hu; rfl
theorem OwnI.lt {w : World} {B : Nat} {v : Value} {xs : List Int} (h : OwnI w B v xs) : ∀ g, v.ownBlock = some g → B ≤ g ∧ g < w.heap.size := by
  obtain ⟨A, c, hv, ho⟩ := h
  exact ho.lt
theorem OwnI.apart {w w2 : World} {B B2 : Nat} {v v2 : Value} {xs ys : List Int} (h : OwnI w B v xs) (h2 : OwnI w2 B2 v2 ys) (hlt : w.heap.size ≤ B2) : Apart v v2 := fun g hg hg2 => by
  have := (h.lt g hg).2
  have := (h2.lt g hg2).1
  omega
theorem OwnI.kept {w w' : World} {B : Nat} {v u : Value} {xs : List Int} (h : OwnI w B v xs) (hg : w.grownBy w' u.ownBlock) (ha : Apart v u) : OwnI w' B v xs := by
  obtain ⟨A, c, hv, ho⟩ := h
  exact ⟨A, c, hv, ho.kept hg (apart_row ha)⟩
theorem OwnI.below_grown {w w' a : World} {B B' : Nat} {v : Value} {xs : List Int} (h : OwnI w B v xs) (hg : w.grownBy w' v.ownBlock) (hb : Below B' a w) (h1 : B' ≤ B) (h2 : B' ≤ w.heap.size) : Below B' a w' :=
  hb.grown hg h2 fun g e => by have := (h.lt g e).1; omega

/-- A world that holds the same memory. -/
theorem cell_heap {w w' : World} (h : w'.heap = w.heap) (a : Addr) : w'.cell? a = w.cell? a := by simp [World.cell?, h]
theorem frozen_heap {w w' : World} (h : w'.heap = w.heap) (a : Addr) : w'.frozen? a = w.frozen? a := by simp [World.frozen?, h]
theorem heap_drewN (w : World) (n : Nat) : (w.drewN n).heap = w.heap := rfl
theorem own_heap {w w' : World} {base : Nat} {e : TypeId} {size : Nat} {v : Value} {n : Nat} {cs : List Value} (hh : w'.heap = w.heap) (h : w.ownsRow base e size v n cs) : w'.ownsRow base e size v n cs := by
  unfold World.ownsRow at h ⊢
  rw [hh]; exact h

/-- What stands behind the first cell. -/
theorem Rd.tail1 {w : World} {ad : Addr} {u : Value} {cs : List Value} (h : Rd w (some ad) (u :: cs)) : Rd w (some { block := ad.block, off := ad.off + 1 }) cs := fun j v hj => by
  obtain ⟨ad', e, hc⟩ := h (j + 1) v hj
  injection e with e
  subst e
  refine ⟨_, rfl, ?_⟩
  rw [Addr.add_succ'] at hc
  rw [Addr.add_lit, Nat.add_assoc, Nat.add_comm 1 j]
  exact hc

theorem grown_drew {w w' : World} {row : Option Nat} (h : w.grownBy w' row) : w.grownBy w'.drew row := ⟨h.os, h.tape, h.output, h.size, h.block⟩
theorem grown_drewN {w w' : World} {row : Option Nat} (h : w.grownBy w' row) (n : Nat) : w.grownBy (w'.drewN n) row := ⟨h.os, h.tape, h.output, h.size, h.block⟩

theorem drew_ex (w : World) (n m : Nat) : ∃ k, (w.drewN n).drewN m = w.drewN k := ⟨n + m, by rw [World.drewN_drewN]⟩

theorem ret_bool {a b : Bool} (h : a = b) : Ending.returned (.bool a) = .returned (.bool b) := by rw [h]
theorem ret_int {k : IntKind} {a b : Int} (h : a = b) : Ending.returned (.int k a) = .returned (.int k b) := by rw [h]
theorem ret_str {a b : ByteArray} (h : a = b) : Ending.returned (.string a) = .returned (.string b) := by rw [h]

theorem all_snoc {α : Type} {xs : List α} {p : α → Bool} {k : Nat} {x : α} (h : (xs.take k).all p = true) (hx : xs[k]? = some x) (hp : p x = true) : (xs.take (k + 1)).all p = true := by
  rw [take_snoc hx, List.all_append, h]; simp [hp]
theorem all_not {α : Type} {xs : List α} {p : α → Bool} {k : Nat} {x : α} (hx : xs[k]? = some x) (hp : p x = false) : xs.all p = false := by
  rw [List.all_eq_false]; exact ⟨x, List.mem_of_getElem? hx, by simp [hp]⟩
theorem all_full {α : Type} {xs : List α} {p : α → Bool} (h : (xs.take xs.length).all p = true) : xs.all p = true := by rwa [List.take_length] at h

end Go.Proofs.Ythmngaioimohaaa
