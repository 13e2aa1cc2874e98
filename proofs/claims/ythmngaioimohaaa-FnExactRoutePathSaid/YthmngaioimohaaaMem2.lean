
/- Words for memory: slices whose elements have two cells; rows of the call's own between two heap sizes; rows of rows. No program in sight. -/
import Derived.Test.YthmngaioimohaaaMem
namespace Go.Proofs.Ythmngaioimohaaa
open Go.RowKit
set_option linter.unusedVariables false

/-- The cells of elements of two cells each. -/
def cs2 {α : Type} (f : α → Value × Value) (xs : List α) : List Value := xs.flatMap fun x => [(f x).1, (f x).2]
section
variable {α : Type} {f : α → Value × Value}
theorem cs2_nil : cs2 f [] = [] := rfl
theorem cs2_cons (x : α) (xs : List α) : cs2 f (x :: xs) = (f x).1 :: (f x).2 :: cs2 f xs := by simp [cs2]
theorem cs2_append (xs ys : List α) : cs2 f (xs ++ ys) = cs2 f xs ++ cs2 f ys := by simp [cs2]
theorem cs2_length : ∀ xs : List α, (cs2 f xs).length = xs.length * 2
  | [] => rfl
  | x :: xs => by rw [cs2_cons, List.length_cons, List.length_cons, cs2_length xs, List.length_cons]; omega
theorem cs2_get : ∀ {xs : List α} {k : Nat} {x : α}, xs[k]? = some x → (cs2 f xs)[k * 2]? = some (f x).1 ∧ (cs2 f xs)[k * 2 + 1]? = some (f x).2
  | [], k, x, h => by simp at h
  | y :: xs, 0, x, h => by
    simp only [List.getElem?_cons_zero, Option.some.injEq] at h
    subst h
    rw [cs2_cons]; exact ⟨rfl, rfl⟩
  | y :: xs, k + 1, x, h => by
    have ih := cs2_get (xs := xs) (k := k) (x := x) (by simpa using h)
    rw [cs2_cons]
    have e1 : (k + 1) * 2 = k * 2 + 1 + 1 := by omega
    rw [e1, List.getElem?_cons_succ, List.getElem?_cons_succ, List.getElem?_cons_succ]
    exact ih
theorem cs2_set : ∀ (xs : List α) (k : Nat) (x : α), ((cs2 f xs).set (k * 2) (f x).1).set (k * 2 + 1) (f x).2 = cs2 f (xs.set k x)
  | [], k, x => by simp [cs2]
  | y :: xs, 0, x => by rw [List.set_cons_zero, cs2_cons, cs2_cons]; rfl
  | y :: xs, k + 1, x => by
    rw [List.set_cons_succ, cs2_cons, cs2_cons, ← cs2_set xs k x]
    have e1 : (k + 1) * 2 = k * 2 + 1 + 1 := by omega
    rw [e1, List.set_cons_succ, List.set_cons_succ, List.set_cons_succ, List.set_cons_succ]
theorem cs2_take : ∀ (xs : List α) (k : Nat), (cs2 f xs).take (k * 2) = cs2 f (xs.take k)
  | [], k => by simp [cs2]
  | y :: xs, 0 => by simp [cs2]
  | y :: xs, k + 1 => by
    have e1 : (k + 1) * 2 = k * 2 + 1 + 1 := by omega
    rw [List.take_succ_cons, cs2_cons, cs2_cons, e1, List.take_succ_cons, List.take_succ_cons, cs2_take xs k]
theorem cs2_drop : ∀ (xs : List α) (k : Nat), (cs2 f xs).drop (k * 2) = cs2 f (xs.drop k)
  | [], k => by simp [cs2]
  | y :: xs, 0 => by simp
  | y :: xs, k + 1 => by
    have e1 : (k + 1) * 2 = k * 2 + 1 + 1 := by omega
    rw [cs2_cons, e1, List.drop_succ_cons, List.drop_succ_cons, List.drop_succ_cons, cs2_drop xs k]
theorem cs2_one (x : α) : cs2 f [x] = [(f x).1, (f x).2] := rfl
theorem cs2_oneCell (h : ∀ x, (f x).1.oneCell' = true ∧ (f x).2.oneCell' = true) (xs : List α) : ∀ u ∈ cs2 f xs, u.oneCell' = true := by
  intro u hu
  simp only [cs2, List.mem_flatMap, List.mem_cons, List.not_mem_nil, or_false] at hu
  obtain ⟨x, _, rfl | rfl⟩ := hu
  · exact (h x).1
  · exact (h x).2
theorem addr_second (a : Addr) (m : Nat) : a.add (m + 1) = ⟨(a.add m).block, (a.add m).off + 1, none⟩ := by
  unfold Addr.add
  split <;> split <;> simp_all <;> omega
/-- Element k of such a slice: its address, the element, its two cells. -/
theorem Rd.two {w : World} {A : Option Addr} {xs : List α} (h : Rd w A (cs2 f xs)) {k : Nat} (hk : k < xs.length) :
    ∃ ad x, A = some ad ∧ xs[k]? = some x ∧ w.cell? (ad.add (k * 2)) = some (f x).1 ∧ w.cell? ⟨(ad.add (k * 2)).block, (ad.add (k * 2)).off + 1, none⟩ = some (f x).2 := by
  have hx := List.getElem?_eq_getElem hk
  obtain ⟨h1, h2⟩ := cs2_get (f := f) hx
  obtain ⟨ad, e, hc⟩ := h _ _ h1
  obtain ⟨ad2, e2, hc2⟩ := h _ _ h2
  rw [e] at e2
  injection e2 with e2
  subst e2
  exact ⟨ad, xs[k], e, hx, hc, by rw [← addr_second]; exact hc2⟩
end

/-- A slice that reads the cells cs, n elements. -/
def Sl (w : World) (v : Value) (n : Nat) (cs : List Value) : Prop := ∃ A c, v = .slice A n c ∧ Rd w A cs ∧ n ≤ c ∧ c ≤ maxLen
theorem Sl.below {w w' : World} {v : Value} {n : Nat} {cs : List Value} (h : Sl w v n cs) (hb : Below w.heap.size w w') : Sl w' v n cs := by
  obtain ⟨A, c, e, hr, h1, h2⟩ := h
  exact ⟨A, c, e, hr.below hb, h1, h2⟩
theorem Sl.le {w : World} {v : Value} {n : Nat} {cs : List Value} (h : Sl w v n cs) : n ≤ maxLen := by
  obtain ⟨A, c, e, hr, h1, h2⟩ := h
  omega
theorem sl_own {w : World} {base : Nat} {e : TypeId} {size : Nat} {v : Value} {n : Nat} {cs : List Value} (h : w.ownsRow base e size v n cs) : Sl w v n cs := by
  obtain ⟨A, c, hv, h1, h2, hr, _⟩ := own_form h
  exact ⟨A, c, hv, hr, h1, h2⟩

/-- A row of the call's own, in blocks from lo on and below hi. -/
structure Own (w : World) (lo hi : Nat) (e : TypeId) (size : Nat) (v : Value) (n : Nat) (cs : List Value) : Prop where
  row : w.ownsRow lo e size v n cs
  top : ∀ g, v.ownBlock = some g → g < hi
/-- Only blocks between lo and hi changed, and new ones came. -/
structure Only (w w' : World) (lo hi : Nat) : Prop where
  os : w'.os = w.os
  tape : w'.tape = w.tape
  output : w'.output = w.output
  size : w.heap.size ≤ w'.heap.size
  block : ∀ k, k < w.heap.size → ¬ (lo ≤ k ∧ k < hi) → w'.heap[k]? = w.heap[k]?
theorem Only.refl (w : World) (lo hi : Nat) : Only w w lo hi := ⟨rfl, rfl, rfl, Nat.le_refl _, fun _ _ _ => rfl⟩
theorem Only.trans {a b c : World} {lo hi : Nat} (h : Only a b lo hi) (k : Only b c lo hi) : Only a c lo hi :=
  ⟨k.os.trans h.os, k.tape.trans h.tape, k.output.trans h.output, Nat.le_trans h.size k.size, fun i hi hn => (k.block i (Nat.lt_of_lt_of_le hi h.size) hn).trans (h.block i hi hn)⟩
theorem Only.of_below {w w' : World} (h : Below w.heap.size w w') (lo hi : Nat) : Only w w' lo hi := ⟨h.os, h.tape, h.output, h.size, fun k hk _ => h.block k hk⟩
theorem Only.grown {w w' : World} {row : Option Nat} {lo hi : Nat} (h : w.grownBy w' row) (hr : ∀ g, row = some g → lo ≤ g ∧ g < hi) : Only w w' lo hi :=
  ⟨h.os, h.tape, h.output, h.size, fun k hk hn => h.block k hk (fun e => hn (hr k e.symm))⟩
theorem Only.wide {w w' : World} {lo hi lo' hi' : Nat} (h : Only w w' lo hi) (h1 : lo' ≤ lo) (h2 : hi ≤ hi') : Only w w' lo' hi' :=
  ⟨h.os, h.tape, h.output, h.size, fun k hk hn => h.block k hk (fun e => hn (by omega))⟩
theorem Only.below {a w w' : World} {lo hi B : Nat} (hb : Below B a w) (h : Only w w' lo hi) (hB : B ≤ lo) (hs : B ≤ w.heap.size) : Below B a w' :=
  ⟨h.os.trans hb.os, h.tape.trans hb.tape, h.output.trans hb.output, Nat.le_trans hb.size h.size, fun k hk => (h.block k (by omega) (by omega)).trans (hb.block k hk)⟩
theorem Own.below {w w' : World} {lo hi : Nat} {e : TypeId} {size : Nat} {v : Value} {n : Nat} {cs : List Value} (h : Own w lo hi e size v n cs) (hb : Below w.heap.size w w') : Own w' lo hi e size v n cs := ⟨own_below h.row hb, h.top⟩
theorem Own.only {w w' : World} {lo hi lo' hi' : Nat} {e : TypeId} {size : Nat} {v : Value} {n : Nat} {cs : List Value} (h : Own w lo hi e size v n cs) (hb : Only w w' lo' hi') (hd : hi ≤ lo' ∨ hi' ≤ lo) : Own w' lo hi e size v n cs := by
  have hlt := h.row.lt
  refine ⟨⟨h.row.1, ?_⟩, h.top⟩
  rcases h.row.2 with h0 | ⟨g, cap, cur, hv, hg, hh, r⟩
  · exact .inl h0
  · have hb2 : v.ownBlock = some g := by rw [hv]; rfl
    have h1 := hlt g hb2
    have h2 := h.top g hb2
    exact .inr ⟨g, cap, cur, hv, hg, by rw [hb.block g h1.2 (by omega)]; exact hh, r⟩
theorem Own.sl {w : World} {lo hi : Nat} {e : TypeId} {size : Nat} {v : Value} {n : Nat} {cs : List Value} (h : Own w lo hi e size v n cs) : Sl w v n cs := sl_own h.row
theorem own_of {w : World} {lo : Nat} {e : TypeId} {size : Nat} {v : Value} {n : Nat} {cs : List Value} (h : w.ownsRow lo e size v n cs) : Own w lo w.heap.size e size v n cs := ⟨h, fun g hg => (h.lt g hg).2⟩
theorem own_nil (w : World) (lo hi : Nat) (e : TypeId) (size : Nat) : Own w lo hi e size (.slice none 0 0) 0 [] := ⟨World.ownsRow_nil _ _ _ _, by simp [Value.ownBlock]⟩
theorem Own.wide {w : World} {lo hi lo' hi' : Nat} {e : TypeId} {size : Nat} {v : Value} {n : Nat} {cs : List Value} (h : Own w lo hi e size v n cs) (h1 : lo' ≤ lo) (h2 : hi ≤ hi') : Own w lo' hi' e size v n cs :=
  ⟨own_base h.row h1, fun g hg => by have := h.top g hg; omega⟩
theorem Own.gap {w w2 : World} {lo hi lo2 hi2 : Nat} {e e2 : TypeId} {size size2 : Nat} {v v2 : Value} {n n2 : Nat} {cs cs2 : List Value} (h : Own w lo hi e size v n cs) (h2 : Own w2 lo2 hi2 e2 size2 v2 n2 cs2) (hd : hi ≤ lo2 ∨ hi2 ≤ lo) : Apart v v2 := fun g hg hg2 => by
  have a1 := (h.row.lt g hg).1
  have a2 := h.top g hg
  have a3 := (h2.row.lt g hg2).1
  have a4 := h2.top g hg2
  omega
/-- Rows of different element types lie apart. -/
theorem own_apart_type {w : World} {base base2 : Nat} {e e2 : TypeId} {size size2 : Nat} {v v2 : Value} {n n2 : Nat} {cs cs2 : List Value} (h : w.ownsRow base e size v n cs) (h2 : w.ownsRow base2 e2 size2 v2 n2 cs2) (hne : e ≠ e2) : Apart v v2 := by
  intro g hg hg2
  rcases h.2 with ⟨rfl, _⟩ | ⟨g1, cap1, cur1, rfl, _, hh1, _⟩
  · simp [Value.ownBlock] at hg
  · rcases h2.2 with ⟨rfl, _⟩ | ⟨g2, cap2, cur2, rfl, _, hh2, _⟩
    · simp [Value.ownBlock] at hg2
    · simp [Value.ownBlock] at hg hg2
      subst hg hg2
      rw [hh1] at hh2
      injection hh2 with hh2
      injection hh2 with _ hh2
      exact hne hh2

/-- A slice of slices that reads: its rows us read the lists xss, as F says of each. -/
structure SlRows {β : Type} (F : World → Value → β → Prop) (w : World) (us : List Value) (xss : List β) : Prop where
  len : us.length = xss.length
  row : ∀ (i : Nat) (u : Value) (xs : β), us[i]? = some u → xss[i]? = some xs → F w u xs
theorem SlRows.at_ {β : Type} {F : World → Value → β → Prop} {w : World} {us : List Value} {xss : List β} (h : SlRows F w us xss) {k : Nat} (hk : k < xss.length) : ∃ u xs, us[k]? = some u ∧ xss[k]? = some xs ∧ F w u xs := by
  have hl := h.len
  have h1 := List.getElem?_eq_getElem (l := us) (i := k) (by omega)
  have h2 := List.getElem?_eq_getElem (l := xss) (i := k) hk
  exact ⟨_, _, h1, h2, h.row k _ _ h1 h2⟩
theorem SlRows.mono {β : Type} {F : World → Value → β → Prop} {w w' : World} {us : List Value} {xss : List β} (h : SlRows F w us xss) (hF : ∀ u xs, F w u xs → F w' u xs) : SlRows F w' us xss := ⟨h.len, fun i u xs h1 h2 => hF u xs (h.row i u xs h1 h2)⟩
/-- Rows of the call's own between lo and hi, each apart from each other; cs: the cells of a row. -/
structure Rows {β : Type} (e : TypeId) (size : Nat) (num : β → Nat) (cs : β → List Value) (w : World) (lo hi : Nat) (us : List Value) (xss : List β) : Prop where
  len : us.length = xss.length
  row : ∀ (i : Nat) (u : Value) (xs : β), us[i]? = some u → xss[i]? = some xs → Own w lo hi e size u (num xs) (cs xs)
  apart : ∀ (i j : Nat) (u u' : Value), i < j → us[i]? = some u → us[j]? = some u' → Apart u u'
section
variable {β : Type} {e : TypeId} {size : Nat} {num : β → Nat} {cs : β → List Value} {w w' : World} {lo hi lo' hi' : Nat} {us : List Value} {xss : List β}
theorem Rows.nil : Rows e size num cs w lo hi [] [] := ⟨rfl, by simp, by simp⟩
theorem Rows.below (h : Rows e size num cs w lo hi us xss) (hb : Below w.heap.size w w') : Rows e size num cs w' lo hi us xss := ⟨h.len, fun i u xs h1 h2 => (h.row i u xs h1 h2).below hb, h.apart⟩
theorem Rows.only (h : Rows e size num cs w lo hi us xss) (hb : Only w w' lo' hi') (hd : hi ≤ lo' ∨ hi' ≤ lo) : Rows e size num cs w' lo hi us xss := ⟨h.len, fun i u xs h1 h2 => (h.row i u xs h1 h2).only hb hd, h.apart⟩
theorem Rows.wide (h : Rows e size num cs w lo hi us xss) (h1 : lo' ≤ lo) (h2 : hi ≤ hi') : Rows e size num cs w lo' hi' us xss := ⟨h.len, fun i u xs a b => (h.row i u xs a b).wide h1 h2, h.apart⟩
/-- A change in a block that is none of the rows'. -/
theorem Rows.kept {row : Option Nat} (h : Rows e size num cs w lo hi us xss) (hg : w.grownBy w' row) (hne : ∀ u ∈ us, u.ownBlock = none ∨ u.ownBlock ≠ row) : Rows e size num cs w' lo hi us xss :=
  ⟨h.len, fun i u xs h1 h2 => ⟨(h.row i u xs h1 h2).row.kept hg (hne u (List.mem_of_getElem? h1)), (h.row i u xs h1 h2).top⟩, h.apart⟩
/-- One row more, apart from the others. -/
theorem Rows.snoc (h : Rows e size num cs w lo hi us xss) {u : Value} {xs : β} (ho : Own w lo hi e size u (num xs) (cs xs)) (ha : ∀ v ∈ us, Apart v u) : Rows e size num cs w lo hi (us ++ [u]) (xss ++ [xs]) := by
  refine ⟨by simp [h.len], fun i v ys h1 h2 => ?_, fun i j v v' hij h1 h2 => ?_⟩
  · have hl := h.len
    rcases Nat.lt_or_ge i us.length with hi | hi
    · rw [List.getElem?_append_left hi] at h1
      rw [List.getElem?_append_left (by omega)] at h2
      exact h.row i v ys h1 h2
    · have := (List.getElem?_eq_some_iff.1 h1).1
      simp at this
      have e1 : i = us.length := by omega
      subst e1
      simp at h1
      rw [hl] at h2
      simp at h2
      subst h1 h2
      exact ho
  · have := (List.getElem?_eq_some_iff.1 h2).1
    simp at this
    rw [List.getElem?_append_left (by omega)] at h1
    rcases Nat.lt_or_ge j us.length with hj | hj
    · rw [List.getElem?_append_left hj] at h2
      exact h.apart i j v v' hij h1 h2
    · have e1 : j = us.length := by omega
      subst e1
      simp at h2
      subst h2
      exact ha v (List.mem_of_getElem? h1)
/-- Row k changed. -/
theorem Rows.set (h : Rows e size num cs w lo hi us xss) {k : Nat} {u : Value} {xs : β} (ho : Own w' lo hi e size u (num xs) (cs xs)) (hr : ∀ (i : Nat) (v : Value) (ys : β), i ≠ k → us[i]? = some v → xss[i]? = some ys → Own w' lo hi e size v (num ys) (cs ys)) (ha : ∀ (i : Nat) (v : Value), i ≠ k → us[i]? = some v → Apart v u) :
    Rows e size num cs w' lo hi (us.set k u) (xss.set k xs) := by
  refine ⟨by simp [h.len], fun i v ys h1 h2 => ?_, fun i j v v' hij h1 h2 => ?_⟩
  · by_cases hik : i = k
    · subst hik
      have l1 := (List.getElem?_eq_some_iff.1 h1).1
      have l2 := (List.getElem?_eq_some_iff.1 h2).1
      simp at l1 l2
      rw [List.getElem?_set_self l1] at h1
      rw [List.getElem?_set_self l2] at h2
      injection h1 with h1
      injection h2 with h2
      subst h1 h2
      exact ho
    · rw [List.getElem?_set_ne (fun e => hik e.symm)] at h1 h2
      exact hr i v ys hik h1 h2
  · by_cases hik : i = k
    · subst hik
      have l1 := (List.getElem?_eq_some_iff.1 h1).1
      simp at l1
      rw [List.getElem?_set_self l1] at h1
      injection h1 with h1
      subst h1
      rw [List.getElem?_set_ne (by omega)] at h2
      exact (ha j v' (by omega) h2).symm
    · rw [List.getElem?_set_ne (fun e => hik e.symm)] at h1
      by_cases hjk : j = k
      · subst hjk
        have l2 := (List.getElem?_eq_some_iff.1 h2).1
        simp at l2
        rw [List.getElem?_set_self l2] at h2
        injection h2 with h2
        subst h2
        exact ha i v hik h1
      · rw [List.getElem?_set_ne (fun e => hjk e.symm)] at h2
        exact h.apart i j v v' hij h1 h2
end

end Go.Proofs.Ythmngaioimohaaa
