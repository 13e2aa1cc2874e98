
/- Strings in memory; rows of the call's own, sorted by the library. -/
import Derived.Test.YtefgfdehinpbaaaFw4
import Derived.Test.YtefgfdehinpbaaaFwSort
import Derived.Test.YtefgfdehinpbaaaFwShelf
import Derived.Sort.OwnSorted
namespace Go.Proofs.Ytefgfdehinpbaaa
open Go.RowKit
set_option linter.unusedVariables false

def strs (xs : List ByteArray) : List Value := xs.map Value.string
theorem strs_get {xs : List ByteArray} {k : Nat} {x : ByteArray} (h : xs[k]? = some x) : (strs xs)[k]? = some (.string x) := by simp [strs, h]
theorem strs_append (xs ys : List ByteArray) : strs (xs ++ ys) = strs xs ++ strs ys := by simp [strs]
theorem strs_oneCell (xs : List ByteArray) : ∀ u ∈ strs xs, u.oneCell' = true := by
  intro u hu
  simp only [strs, List.mem_map] at hu
  obtain ⟨x, _, rfl⟩ := hu
  rfl
theorem strs_length (xs : List ByteArray) : (strs xs).length = xs.length := by simp [strs]
theorem str_info : (Try.prog.info? 9).map (fun i => (i.zero, i.size, i.bytes)) = some (some (.string ⟨#[]⟩), 1, 16) := by kernel_rfl
theorem str_elem : ElemInfo Try.prog 29 9 1 16 := elemInfo_of Try.underlying29 str_info rfl (by decide)
abbrev IS (w : World) (v : Value) (xs : List ByteArray) : Prop := Sl w v xs.length (strs xs)
abbrev OS (w : World) (lo hi : Nat) (v : Value) (xs : List ByteArray) : Prop := Own w lo hi 9 1 v xs.length (strs xs)
theorem Rd.str {w : World} {A : Option Addr} {xs : List ByteArray} (h : Rd w A (strs xs)) {k : Nat} (hk : k < xs.length) :
    ∃ ad x, A = some ad ∧ xs[k]? = some x ∧ w.cell? (ad.add k) = some (.string x) := by
  obtain ⟨ad, e, hc⟩ := h k _ (strs_get (List.getElem?_eq_getElem hk))
  exact ⟨ad, xs[k], e, List.getElem?_eq_getElem hk, hc⟩

theorem strs_enc (ss : List ByteArray) : strs ss = (ss.map fun b => b.data.toList).map encStr := by
  simp [strs, encStr]
theorem srt_enc (ss : List ByteArray) : ((ss.map fun b => b.data.toList).mergeSort fun x y => decide (x ≤ y)).map encStr = strs (srt ss) := by
  rw [strs_enc, srt]
  congr 1
  exact (List.map_mergeSort (r := leB) (s := fun x y => decide (x ≤ y)) (f := fun b : ByteArray => b.data.toList) fun a _ b _ => rfl).symm

theorem sort_any (v : Value) (ss : List ByteArray) (base : Nat) (w : World) (h : w.ownsRow base 9 1 v ss.length (strs ss)) (hl : ss.length ≤ 1000) :
    Calls Try.prog 44 #[v] w fun e w' => e = .returned (.tuple #[]) ∧ w'.ownsRow base 9 1 v ss.length (strs (srt ss)) ∧ w.grownBy w' v.ownBlock := by
  rcases h.2 with ⟨rfl, h0⟩ | ⟨g, cap, cur, rfl, hb, hg, h1, h2, h3, h4⟩
  · rw [h0]
    have e : ss = [] := List.eq_nil_of_length_eq_zero h0
    subst e
    refine (sort_none none 0 w).mono ?_
    rintro e w' ⟨rfl, rfl⟩
    exact ⟨rfl, by rw [srt_nil]; exact World.ownsRow_nil _ _ _ _, World.grownBy.refl w' _⟩
  · have hH : Go.Sort.Holds encStr w g 0 (ss.map fun b => b.data.toList).toArray := holds_of_block hg (by rw [List.length_map, ← strs_enc]; simpa using h4)
    have hs := sort_lib g 0 cap (ss.map fun b => b.data.toList) w hH (Array.getElem?_eq_some_iff.1 hg).1 (by simp; omega)
    rw [List.length_map] at hs
    refine hs.mono ?_
    rintro e w' ⟨rfl, n, os, rfl⟩
    refine ⟨rfl, ?_, grownBy_sorted _⟩
    have := ownsRow_sorted (n := n) (os := os) (ss := ss.map fun b => b.data.toList) (ts := (ss.map fun b => b.data.toList).mergeSort fun x y => decide (x ≤ y)) (by simp) hb hg (by simpa using h1) h2 (by simpa using h3)
    rw [srt_enc, List.length_map] at this
    exact this

theorem cmp_lt : ∀ (a b : List UInt8), decide (Lib.compareBytes a b < 0) = decide (a < b)
  | [], [] => by simp [Lib.compareBytes]
  | [], y :: b => by simp [Lib.compareBytes]
  | x :: a, [] => by simp [Lib.compareBytes]
  | x :: a, y :: b => by
    unfold Lib.compareBytes
    by_cases h1 : x < y
    · rw [if_pos h1, decide_eq_true (p := x :: a < y :: b) (List.cons_lt_cons_iff.2 (.inl h1))]
      rfl
    · rw [if_neg h1]
      by_cases h2 : y < x
      · rw [if_pos h2]
        have : ¬ x = y := fun e => by subst e; exact h1 h2
        simp [List.cons_lt_cons_iff, h1, this]
      · rw [if_neg h2]
        have e : x = y := by
          have a1 := UInt8.not_lt.1 h1
          have a2 := UInt8.not_lt.1 h2
          exact UInt8.le_antisymm a2 a1
        subst e
        rw [cmp_lt a b]
        simp
/-- Orders compared by their codes. -/
def cfF (x y : Fwd) : Int := Lib.compareBytes x.1.data.toList y.1.data.toList
theorem ltOf_cf (x y : Fwd) : ltOf cfF x y = ltB x.1 y.1 := by unfold ltOf cfF ltB; exact cmp_lt _ _
theorem swo_cf : Go.Sort.SWO (ltOf cfF) where
  irrefl x := by
    rw [ltOf_cf, ltB]
    simp
  trans x y z h k := by
    rw [ltOf_cf, ltB] at *
    simp only [decide_eq_true_eq] at *
    exact Std.lt_trans h k
  ntrans x y z h k := by
    rw [ltOf_cf, ltB_not] at *
    simp only [Bool.not_eq_eq_eq_not, Bool.not_false] at *
    exact leB_trans k h
def encF (x : Fwd) : List Value := [.string x.1, .string x.2]
theorem flat_fcs (xs : List Fwd) : (Go.Sort.flatK encF 2 xs.toArray).toList = fcs xs := by
  apply List.ext_getElem?
  intro t
  rcases Nat.lt_or_ge t (xs.length * 2) with h | h
  · have hk : t / 2 < xs.length := by omega
    have hx := List.getElem?_eq_getElem hk
    obtain ⟨a, b⟩ := cs2_get (f := ftf) hx
    have hl : (Go.Sort.flatK encF 2 xs.toArray).toList[t]? = some ((encF xs[t / 2])[t % 2]!) := by
      have h1 := Go.Sort.get_flatK encF 2 xs.toArray t (by simpa using h)
      rw [getElem!_pos _ t (by simpa using h)] at h1
      rw [Array.getElem?_toList, Array.getElem?_eq_getElem (by simpa using h), h1]
      congr 2
      simp [getElem!_pos, hk]
    rw [hl]
    rcases Nat.mod_two_eq_zero_or_one t with h0 | h0
    · have e : t / 2 * 2 = t := by omega
      rw [e] at a
      rw [a, h0]; rfl
    · have e : t / 2 * 2 + 1 = t := by omega
      rw [e] at b
      rw [b, h0]; rfl
  · rw [List.getElem?_eq_none (by simp; omega), List.getElem?_eq_none (by rw [cs2_length]; omega)]
theorem flat_fcs' (xs : List Fwd) : Go.Sort.flatK encF 2 xs.toArray = (fcs xs).toArray := by
  rw [← flat_fcs]

theorem holds_cells {w : World} {g : Nat} {cur : Array Value} {e : TypeId} {cs : List Value} (hb : w.heap[g]? = some (.cells cur e (0, 0))) (ht : cur.toList.take cs.length = cs) : Go.Sort.Holds id w g 0 cs.toArray := by
  intro j hj
  have hj' : j < cs.length := by simpa using hj
  refine ⟨?_, by simp [World.frozen?, hb]⟩
  have h1 : (cur.toList.take cs.length)[j]? = cs[j]? := by rw [ht]
  rw [List.getElem?_take_of_lt hj'] at h1
  simp only [World.cell?, hb, Nat.zero_add]
  simp only [Option.isSome_none, Bool.false_eq_true, if_false]
  rw [← Array.getElem?_toList, h1]
  simp [hj']
theorem heap_put {w : World} {g n : Nat} {os : Array Obj} {cur : Array Value} {e : TypeId} {fr : Nat × Nat} (F : Array Value) (hb : w.heap[g]? = some (.cells cur e fr)) :
    (Go.Sort.grow (Go.Sort.putRow id (Sort.ahead w n) g 0 F) os).heap[g]? = some (.cells (Go.Sort.putCells id 0 F cur) e fr) := by
  have hg : g < w.heap.size := (Array.getElem?_eq_some_iff.1 hb).1
  rw [Go.Sort.heap_grow_old _ _ (by simpa using hg)]
  simp [Go.Sort.putRow, Go.Sort.mapBlock, Sort.ahead, Array.getElem?_modify, hb, Go.Sort.onCells]
theorem grown_put {w : World} {g n : Nat} {os : Array Obj} (F : Array Value) : w.grownBy (Go.Sort.grow (Go.Sort.putRow id (Sort.ahead w n) g 0 F) os) (some g) := by
  refine ⟨rfl, rfl, rfl, by simp, fun k hk hne => ?_⟩
  rw [Go.Sort.heap_grow_old _ _ (by simpa using hk)]
  have : g ≠ k := fun e => hne (by rw [e])
  simp [Go.Sort.putRow, Go.Sort.mapBlock, Sort.ahead, Array.getElem?_modify, this]
theorem take_put (cur : Array Value) (cs : List Value) (h : cs.length ≤ cur.size) : (Go.Sort.putCells id 0 cs.toArray cur).toList.take cs.length = cs := by
  apply List.ext_getElem?
  intro j
  by_cases hj : j < cs.length
  · rw [List.getElem?_take_of_lt hj, Array.getElem?_toList]
    simp [Go.Sort.putCells, hj, show j < cur.size by omega]
  · rw [List.getElem?_take_eq_none (by omega), List.getElem?_eq_none (by omega)]

set_option maxRecDepth 100000 in
theorem closure_any (x y : Fwd) (W : World) : Calls Try.prog 51 #[.agg #[.string x.1, .string x.2], .agg #[.string y.1, .string y.2]] W fun e w' => e = .returned (.int .i64 (cfF x y)) ∧ ∃ q os', w' = Go.Sort.grow (W.drewN q) os' := by
  have hcon := fun W' => compare_any x.1 y.1 W'
  have hr : Lib.compareBytes x.1.data.toList y.1.data.toList = cfF x y := rfl
  rw [hr] at hcon
  have Hcon := Lib.hid hcon
  clear hr hcon
  generalize cfF x y = r at *
  go_enter Try.func51, Try.ntmps51
  go_wp2_with (go_at_call 52; refine (Hcon.out _).mono ?_; rintro e w' ⟨rfl, rfl⟩)
  go_ret
  exact ⟨rfl, 0, _, by rw [Go.Sort.alloc_eq_grow, Go.Sort.alloc_eq_grow, Go.Sort.grow_grow]; rfl⟩
theorem cmpF_lays (blk off size : Nat) (w : World) : CmpLays Try.prog 51 #[] encF 2 cfF blk off size w :=
  fun _ _ _ _ x y => closure_any x y _

theorem sortF_any (v : Value) (xs : List Fwd) (base : Nat) (w : World) (h : w.ownsRow base 34 2 v xs.length (fcs xs)) (hl : xs.length ≤ 1000) :
    Calls Try.prog 50 #[v, .func (.func 51) #[] #[]] w fun e w' => e = .returned (.tuple #[]) ∧ ∃ ys : List Fwd, ys.Perm xs ∧ ys.Pairwise (fun a b => leB a.1 b.1 = true) ∧ w'.ownsRow base 34 2 v xs.length (fcs ys) ∧ w.grownBy w' v.ownBlock := by
  rcases h.2 with ⟨rfl, h0⟩ | ⟨g, cap, cur, rfl, hb, hg, h1, h2, h3, h4⟩
  · rw [h0]
    have e : xs = [] := List.eq_nil_of_length_eq_zero h0
    subst e
    refine (sortF_none none 0 _ w).mono ?_
    rintro e w' ⟨rfl, rfl⟩
    exact ⟨rfl, [], List.Perm.refl _, List.Pairwise.nil, h, World.grownBy.refl w' _⟩
  · have hln : (fcs xs).length = xs.length * 2 := cs2_length xs
    have hH : Go.Sort.HoldsK encF 2 w g 0 xs.toArray := by
      unfold Go.Sort.HoldsK
      rw [flat_fcs']
      exact holds_cells hg (by rw [hln]; exact h4)
    have eg : ∀ args w, (callFunc 51 args).run Try.prog w = .ok (.enter 51 args) w := enters_of Try.func51 (by kernel_rfl) rfl
    have hs := AnyQ.slices_SortFunc fun_lays 2 Try.isAgg34 Try.sizeOf34 encF (fun _ => rfl) (fun x v hv => by simp [encF] at hv; rcases hv with rfl | rfl <;> rfl) cfF swo_cf 51 #[] g 0 cap xs.toArray w eg (cmpF_lays g 0 _ w) hH (Array.getElem?_eq_some_iff.1 hg).1 (by simp; omega)
    refine Calls.mono hs ?_
    rintro e w' ⟨rfl, d', n, os, ⟨p1, _, p3⟩, hsd, rfl⟩
    have hd : d'.size = xs.length := by simpa using p1
    have hperm : d'.toList.Perm xs := by
      have e1 : d'.extract 0 xs.toArray.size = d' := by rw [List.size_toArray, ← hd, Array.extract_size]
      rw [e1, Array.extract_size] at p3
      exact p3
    refine ⟨rfl, d'.toList, hperm, ?_, ?_, grown_put _⟩
    · rw [List.pairwise_iff_getElem]
      intro i j hi hj hij
      have hj' : j < xs.length := by rw [← hd]; simpa using hj
      have h5 := hsd i j (Nat.zero_le _) hij (by simpa using hj')
      rw [ltOf_cf, ltB_not] at h5
      rw [getElem!_pos _ i (by omega), getElem!_pos _ j (by omega)] at h5
      simpa using h5
    · have hF : Go.Sort.flatK encF 2 d' = (fcs d'.toList).toArray := by rw [← flat_fcs']
      have hl2 : (fcs d'.toList).length = xs.length * 2 := by rw [cs2_length, Array.length_toList, hd]
      refine ⟨hl2, .inr ⟨g, cap, _, rfl, hb, heap_put _ hg, h1, h2, by simp [Go.Sort.putCells, h3], ?_⟩⟩
      rw [hF, ← hl2]
      exact take_put cur _ (by omega)
end Go.Proofs.Ytefgfdehinpbaaa
