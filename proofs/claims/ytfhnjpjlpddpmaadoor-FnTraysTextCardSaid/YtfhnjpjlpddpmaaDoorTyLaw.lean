
/- Plain lists: what the laws on trays say. No program in sight. -/
import Derived.Test.YtfhnjpjlpddpmaaDoorTyMath
namespace Go.Proofs.YtfhnjpjlpddpmaaDoor
open Go.RowKit
set_option linter.unusedVariables false

abbrev bl := Go.Op.bytesLess
theorem bl_irrefl : ∀ a : List UInt8, bl a a = false
  | [] => rfl
  | x :: a => by simp [Go.Op.bytesLess, bl_irrefl a]
theorem bl_antisymm : ∀ {a b : List UInt8}, bl a b = false → bl b a = false → a = b
  | [], [], _, _ => rfl
  | [], y :: b, h, _ => by simp [Go.Op.bytesLess] at h
  | x :: a, [], _, h => by simp [Go.Op.bytesLess] at h
  | x :: a, y :: b, h, g => by
    simp only [Go.Op.bytesLess, Bool.or_eq_false_iff, decide_eq_false_iff_not, Bool.and_eq_false_iff, beq_eq_false_iff_ne] at h g
    have e : x = y := UInt8.le_antisymm (UInt8.not_lt.1 g.1) (UInt8.not_lt.1 h.1)
    subst e
    rw [bl_antisymm (h.2.resolve_left (by simp)) (g.2.resolve_left (by simp))]
theorem bl_take : ∀ {a b : List UInt8} (d : Nat), bl b a = false → bl (b.take d) (a.take d) = false
  | a, b, 0, _ => by simp [Go.Op.bytesLess]
  | [], b, d + 1, _ => by simp [Go.Op.bytesLess]
  | x :: a, [], d + 1, h => by simp [Go.Op.bytesLess] at h
  | x :: a, y :: b, d + 1, h => by
    simp only [Go.Op.bytesLess, Bool.or_eq_false_iff, decide_eq_false_iff_not, Bool.and_eq_false_iff, List.take_succ_cons] at h ⊢
    refine ⟨h.1, ?_⟩
    rcases h.2 with h2 | h2
    · exact .inl h2
    · exact .inr (bl_take d h2)
theorem bl_trans : ∀ {a b c : List UInt8}, bl b a = false → bl c b = false → bl c a = false
  | [], b, c, _, _ => by cases c <;> simp [Go.Op.bytesLess]
  | x :: a, [], c, h, _ => by simp [Go.Op.bytesLess] at h
  | x :: a, y :: b, [], _, h => by simp [Go.Op.bytesLess] at h
  | x :: a, y :: b, z :: c, h, g => by
    simp only [Go.Op.bytesLess, Bool.or_eq_false_iff, decide_eq_false_iff_not, Bool.and_eq_false_iff, beq_eq_false_iff_ne] at h g ⊢
    have h1 := UInt8.not_lt.1 h.1
    have g1 := UInt8.not_lt.1 g.1
    refine ⟨UInt8.not_lt.2 (UInt8.le_trans h1 g1), ?_⟩
    by_cases e : z = x
    · subst e
      have e2 : y = z := UInt8.le_antisymm g1 h1
      subst e2
      exact .inr (bl_trans (h.2.resolve_left (by simp)) (g.2.resolve_left (by simp)))
    · exact .inl e

/-- Letters sorted by their codes. -/
def ascB (b : List Ltr) : Prop := ∀ (i : Nat) (x y : Ltr), b[i]? = some x → b[i + 1]? = some y → bl y.2.data.toList x.2.data.toList = false
theorem asc_le {b : List Ltr} (h : ascB b) : ∀ (n i : Nat) (x y : Ltr), b[i]? = some x → b[i + n]? = some y → bl y.2.data.toList x.2.data.toList = false
  | 0, i, x, y, hx, hy => by rw [Nat.add_zero, hx] at hy; injection hy with hy; subst hy; exact bl_irrefl _
  | n + 1, i, x, y, hx, hy => by
    have hl := (List.getElem?_eq_some_iff.1 hy).1
    have hz := List.getElem?_eq_getElem (l := b) (i := i + n) (by omega)
    exact bl_trans (asc_le h n i x _ hx hz) (h (i + n) _ y hz (by rw [Nat.add_assoc]; exact hy))

/-- The trays of letters that begin alike. -/
def ceil (n size : Nat) : Nat := (n + size - 1) / size
theorem ceil_zero {size : Nat} (hs : 1 ≤ size) : ceil 0 size = 0 := by unfold ceil; exact Nat.div_eq_of_lt (by omega)
theorem ceil_one {n size : Nat} (h1 : 1 ≤ n) (h2 : n ≤ size) : ceil n size = 1 := by
  unfold ceil
  rw [Nat.div_eq_of_lt_le] <;> omega
theorem ceil_more {n size : Nat} (hs : 1 ≤ size) : ceil (size + n) size = 1 + ceil n size := by
  unfold ceil
  have : size + n + size - 1 = (n + size - 1) + size := by omega
  rw [this, Nat.add_div_right _ (by omega)]; omega
theorem ceil_le {n size m : Nat} (hs : 1 ≤ size) (h : n ≤ size * m) : ceil n size ≤ m := by
  unfold ceil
  have : n + size - 1 < size * (m + 1) := by rw [Nat.mul_add]; omega
  have := Nat.div_lt_of_lt_mul this
  omega
/-- All trays but the last one full: as few as possible. -/
theorem full_count {size : Nat} (hs : 1 ≤ size) : ∀ ts : List (List Ltr), (∀ t ∈ ts, 1 ≤ t.length ∧ t.length ≤ size) → (∀ i t, ts[i]? = some t → i + 1 < ts.length → t.length = size) → ts.length = ceil ts.flatten.length size
  | [], _, _ => by simp [ceil_zero hs]
  | [t], h, _ => by
    have := h t (by simp)
    simp only [List.flatten_cons, List.flatten_nil, List.append_nil, List.length_cons, List.length_nil]
    exact (ceil_one this.1 this.2).symm
  | t :: u :: ts, h, hf => by
    have ih := full_count hs (u :: ts) (fun s hs2 => h s (by simp [hs2])) (fun i s hi hl => hf (i + 1) s (by simpa using hi) (by simp at hl ⊢; omega))
    have ht := hf 0 t rfl (by simp)
    rw [List.flatten_cons, List.length_append, ht, ceil_more hs, ← ih, List.length_cons]; omega
theorem sum_len {size : Nat} : ∀ ts : List (List Ltr), (∀ t ∈ ts, t.length ≤ size) → ts.flatten.length ≤ size * ts.length
  | [], _ => by simp
  | t :: ts, h => by
    have h1 := sum_len ts (fun s hs => h s (by simp [hs]))
    have h2 := h t (by simp)
    rw [List.flatten_cons, List.length_append, List.length_cons, Nat.mul_add]; omega
theorem len_sum : ∀ ts : List (List Ltr), (∀ t ∈ ts, 1 ≤ t.length) → ts.length ≤ ts.flatten.length
  | [], _ => by simp
  | t :: ts, h => by
    have h1 := len_sum ts (fun s hs => h s (by simp [hs]))
    have h2 := h t (by simp)
    rw [List.flatten_cons, List.length_append, List.length_cons]; omega
theorem pre_zero (a b : ByteArray) : pre 0 a = pre 0 b := by
  unfold pre
  have e : ∀ c : ByteArray, c.extract 0 0 = ⟨#[]⟩ := fun c => by
    apply ByteArray.ext; simp
  rw [e, e]
theorem fill0_full {size : Nat} (hs : 1 ≤ size) (b : List Ltr) : ∀ i t, (fillT size 0 b)[i]? = some t → i + 1 < (fillT size 0 b).length → t.length = size := by
  intro i t hi hl
  have h := (fill_all (d := 0) hs b).1
  have hu := List.getElem?_eq_getElem hl
  rcases h.next i t _ hi hu with h1 | h1
  · exact h1
  · have ht := h.one t (List.mem_of_getElem? hi)
    have hu2 := h.one _ (List.mem_of_getElem? hu)
    obtain ⟨x, hx⟩ : ∃ x, x ∈ t := by cases t with
      | nil => simp at ht
      | cons x t => exact ⟨x, by simp⟩
    generalize (fillT size 0 b)[i + 1] = u at *
    obtain ⟨y, hy⟩ : ∃ y, y ∈ u := by cases u with
      | nil => simp at hu2
      | cons x t => exact ⟨x, by simp⟩
    exact absurd (pre_zero _ _) (h1 x hx y hy)
theorem fill0_count {size : Nat} (hs : 1 ≤ size) (b : List Ltr) : (fillT size 0 b).length = ceil b.length size := by
  have h := fill_all (d := 0) hs b
  have := full_count hs (fillT size 0 b) h.1.one (fill0_full hs b)
  rw [h.2] at this
  exact this
/-- Filled trays are trays. -/
theorem fill_tv {size d : Nat} {b : List Ltr} (hs : 1 ≤ size) (hs2 : size ≤ 20) (hb : bv b = true) : tv (fillT size d b) size = true := by
  obtain ⟨h1, h2⟩ := fill_all (d := d) hs b
  have h3 := len_sum (fillT size d b) (fun t ht => (h1.one t ht).1)
  have h4 := (bv_parts hb).1
  rw [h2] at h3
  exact tv_mk (fun t ht => by have := h1.one t ht; omega) (by omega) (by omega) (by rw [h2]; exact hb)
/-- No more trays than any others of that size. -/
theorem fill_least {size : Nat} {ts : List (List Ltr)} (hs : 1 ≤ size) (h : ∀ t ∈ ts, t.length ≤ size) : (fillT size 0 ts.flatten).length ≤ ts.length := by
  rw [fill0_count hs]
  exact ceil_le hs (sum_len ts h)

/-- The trays that are needed for the letters of each beginning; cnt: how many begin so. -/
def needs (size d : Nat) (cnt : ByteArray → Nat) : Option ByteArray → List Ltr → Nat
  | _, [] => 0
  | last, x :: b => (if last = some (pre d x.2) then 0 else ceil (cnt (pre d x.2)) size) + needs size d cnt (some (pre d x.2)) b
def cntP (d : Nat) (b : List Ltr) (h : ByteArray) : Nat := (b.filter fun x => decide (pre d x.2 = h)).length
theorem needs_congr {size d : Nat} {c1 c2 : ByteArray → Nat} : ∀ (b : List Ltr) (last : Option ByteArray), (∀ x ∈ b, c1 (pre d x.2) = c2 (pre d x.2)) → needs size d c1 last b = needs size d c2 last b
  | [], _, _ => rfl
  | x :: b, last, h => by rw [needs, needs, h x (by simp), needs_congr b _ (fun y hy => h y (by simp [hy]))]
theorem needs_same {size d : Nat} {cnt : ByteArray → Nat} {h : ByteArray} : ∀ (g rest : List Ltr), (∀ x ∈ g, pre d x.2 = h) → needs size d cnt (some h) (g ++ rest) = needs size d cnt (some h) rest
  | [], rest, _ => rfl
  | x :: g, rest, hg => by
    have hx := hg x (by simp)
    rw [List.cons_append, needs, hx, if_pos rfl, Nat.zero_add]
    exact needs_same g rest fun y hy => hg y (by simp [hy])
theorem needs_new {size d : Nat} {cnt : ByteArray → Nat} {h : ByteArray} : ∀ (rest : List Ltr), (∀ x ∈ rest, pre d x.2 ≠ h) → needs size d cnt (some h) rest = needs size d cnt none rest
  | [], _ => rfl
  | x :: rest, hr => by
    have hx := hr x (by simp)
    rw [needs, needs, if_neg (fun e => hx (by injection e with e; exact e.symm)), if_neg (by simp)]
/-- Filling behind trays that begin otherwise. -/
theorem fill_behind {size d : Nat} (ts : List (List Ltr)) : ∀ (b : List Ltr), (∀ t, ts.getLast? = some t → ∀ y, t.getLast? = some y → ∀ x, b.head? = some x → pre d y.2 ≠ pre d x.2) → (∀ t ∈ ts, t ≠ []) → b.foldl (stepT size d) ts = ts ++ fillT size d b := by
  have key : ∀ (b : List Ltr) (ts us : List (List Ltr)), us ≠ [] → b.foldl (stepT size d) (ts ++ us) = ts ++ b.foldl (stepT size d) us := by
    intro b
    induction b with
    | nil => intro ts us _; rfl
    | cons x b ih =>
      intro ts us hu
      rw [List.foldl_cons, List.foldl_cons]
      have e : stepT size d (ts ++ us) x = ts ++ stepT size d us x := by
        obtain ⟨v, t, rfl⟩ : ∃ v t, us = v ++ [t] := ⟨us.dropLast, us.getLast hu, (List.dropLast_concat_getLast hu).symm⟩
        unfold stepT
        have e1 : (ts ++ (v ++ [t])).getLast? = some t := by rw [← List.append_assoc]; simp
        have e2 : (v ++ [t]).getLast? = some t := by simp
        rw [e1, e2]
        simp only
        split
        · simp
        · rw [← List.append_assoc, List.dropLast_concat, List.dropLast_concat]; simp
      rw [e]
      refine ih ts _ ?_
      unfold stepT
      split
      · simp
      · split <;> simp
  intro b h hne
  cases b with
  | nil => simp [fillT]
  | cons x b =>
    cases ts with
    | nil => simp [fillT]
    | cons t0 ts0 =>
      have hnn : (t0 :: ts0) ≠ [] := by simp
      generalize t0 :: ts0 = ts at *
      rw [List.foldl_cons, fillT, List.foldl_cons]
      have e : stepT size d ts x = ts ++ [[x]] := by
        unfold stepT
        cases hl : ts.getLast? with
        | none => rw [List.getLast?_eq_none_iff] at hl; exact absurd hl hnn
        | some t =>
          simp only
          have htn : t ≠ [] := hne t (List.mem_of_getLast? hl)
          obtain ⟨y, hy⟩ : ∃ y, t.getLast? = some y := by
            cases hh : t.getLast? with
            | none => rw [List.getLast?_eq_none_iff] at hh; exact absurd hh htn
            | some y => exact ⟨y, rfl⟩
          have hc : t.length = size ∨ (t.getLast?.map fun y => pre d y.2) ≠ some (pre d x.2) := .inr (by
            rw [hy]
            simp only [Option.map_some, ne_eq, Option.some.injEq]
            exact h t hl y hy x rfl)
          rw [if_pos hc]
      have e2 : stepT size d [] x = [[x]] := rfl
      rw [e, e2, key _ _ _ (by simp)]
/-- Letters that all begin alike: filled as if nothing were asked of beginnings. -/
theorem fill_alike {size d : Nat} {h : ByteArray} {g : List Ltr} (hg : ∀ x ∈ g, pre d x.2 = h) : fillT size d g = fillT size 0 g := by
  have key : ∀ (g : List Ltr) (ts : List (List Ltr)), (∀ x ∈ g, pre d x.2 = h) → (∀ t ∈ ts, ∀ y ∈ t, pre d y.2 = h) → (∀ t ∈ ts, t ≠ []) → g.foldl (stepT size d) ts = g.foldl (stepT size 0) ts := by
    intro g
    induction g with
    | nil => intro ts _ _ _; rfl
    | cons x g ih =>
      intro ts hg ht hn
      rw [List.foldl_cons, List.foldl_cons]
      have e : stepT size d ts x = stepT size 0 ts x := by
        unfold stepT
        cases hl : ts.getLast? with
        | none => rfl
        | some t =>
          simp only
          have htm := List.mem_of_getLast? hl
          cases hy : t.getLast? with
          | none => rw [List.getLast?_eq_none_iff] at hy; exact absurd hy (hn t htm)
          | some y =>
            simp only [Option.map_some, ne_eq, Option.some.injEq]
            rw [ht t htm y (List.mem_of_getLast? hy), hg x (by simp), pre_zero y.2 x.2]
            simp
      rw [e]
      refine ih _ (fun y hy => hg y (by simp [hy])) (fun t htt y hy => ?_) (fun t htt => ?_)
      · unfold stepT at htt
        split at htt
        · simp at htt; subst htt; simp at hy; subst hy; exact hg y (by simp)
        · rename_i t' hl
          split at htt
          · rcases List.mem_append.1 htt with htt | htt
            · exact ht t htt y hy
            · simp at htt; subst htt; simp at hy; subst hy; exact hg y (by simp)
          · rcases List.mem_append.1 htt with htt | htt
            · exact ht t ((List.dropLast_sublist _).subset htt) y hy
            · simp at htt; subst htt
              rcases List.mem_append.1 hy with hy | hy
              · exact ht t' (List.mem_of_getLast? hl) y hy
              · simp at hy; subst hy; exact hg y (by simp)
      · unfold stepT at htt
        split at htt
        · simp at htt; subst htt; simp
        · split at htt
          · rcases List.mem_append.1 htt with htt | htt
            · exact hn t htt
            · simp at htt; subst htt; simp
          · rcases List.mem_append.1 htt with htt | htt
            · exact hn t ((List.dropLast_sublist _).subset htt)
            · simp at htt; subst htt; simp
  exact key g [] hg (by simp) (by simp)
/-- Equal beginnings stand together. -/
def Contig (d : Nat) (b : List Ltr) : Prop := ∀ (i j k : Nat) (x y z : Ltr), i < j → j < k → b[i]? = some x → b[j]? = some y → b[k]? = some z → pre d x.2 = pre d z.2 → pre d x.2 = pre d y.2
theorem pre_data (d : Nat) (c : ByteArray) : (pre d c).data.toList = c.data.toList.take d := by
  unfold pre; simp
theorem asc_contig {b : List Ltr} (h : ascB b) (d : Nat) : Contig d b := by
  intro i j k x y z hij hjk hx hy hz he
  have h1 := asc_le h (j - i) i x y hx (by rw [Nat.add_sub_cancel' (by omega)]; exact hy)
  have h2 := asc_le h (k - j) j y z hy (by rw [Nat.add_sub_cancel' (by omega)]; exact hz)
  have h1' := bl_take d h1
  have h2' := bl_take d h2
  rw [← pre_data, ← pre_data] at h1' h2'
  rw [← he] at h2'
  have := bl_antisymm h2' h1'
  apply ByteArray.ext
  apply Array.toList_inj.1
  exact this
theorem contig_drop {d n : Nat} {b : List Ltr} (h : Contig d b) : Contig d (b.drop n) := by
  intro i j k x y z hij hjk hx hy hz he
  rw [List.getElem?_drop] at hx hy hz
  exact h (n + i) (n + j) (n + k) x y z (by omega) (by omega) hx hy hz he
theorem takeWhile_all {α : Type} (p : α → Bool) : ∀ (l : List α), ∀ y ∈ l.takeWhile p, p y = true
  | [], y, h => by simp at h
  | x :: l, y, h => by
    rw [List.takeWhile_cons] at h
    split at h
    · rename_i hx
      rcases List.mem_cons.1 h with rfl | h
      · exact hx
      · exact takeWhile_all p l y h
    · simp at h
theorem prefix_trays {size d : Nat} (hs : 1 ≤ size) : ∀ (n : Nat) (b : List Ltr), b.length ≤ n → Contig d b → needs size d (cntP d b) none b = (fillT size d b).length := by
  intro n
  induction n with
  | zero => intro b hb _; have : b = [] := List.eq_nil_of_length_eq_zero (by omega)
            subst this; rfl
  | succ n ih =>
    intro b hb hc
    cases b with
    | nil => rfl
    | cons x b =>
      -- the letters that begin as the first one, and the others
      have hsplit := List.takeWhile_append_dropWhile (p := fun y : Ltr => decide (pre d y.2 = pre d x.2)) (l := b)
      have hg : ∀ y ∈ b.takeWhile (fun y : Ltr => decide (pre d y.2 = pre d x.2)), pre d y.2 = pre d x.2 := fun y hy => by
        simpa using takeWhile_all _ _ y hy
      have hr : ∀ y ∈ b.dropWhile (fun y : Ltr => decide (pre d y.2 = pre d x.2)), pre d y.2 ≠ pre d x.2 := by
        cases hd : b.dropWhile (fun y : Ltr => decide (pre d y.2 = pre d x.2)) with
        | nil => simp
        | cons u r =>
          have hu : pre d u.2 ≠ pre d x.2 := by
            have := List.head_dropWhile_not (fun y : Ltr => decide (pre d y.2 = pre d x.2)) (l := b) (by rw [hd]; simp)
            simp only [hd, List.head_cons] at this
            simpa using this
          intro y hy he
          rcases List.mem_cons.1 hy with rfl | hy
          · exact hu he
          · obtain ⟨m, hm⟩ := List.getElem?_of_mem hy
            have hb2 : b = b.takeWhile (fun y : Ltr => decide (pre d y.2 = pre d x.2)) ++ u :: r := by rw [← hd]; exact hsplit.symm
            generalize b.takeWhile (fun y : Ltr => decide (pre d y.2 = pre d x.2)) = g at *
            have e1 : (x :: b)[g.length + 1]? = some u := by rw [hb2]; simp
            have e2 : (x :: b)[g.length + 1 + (m + 1)]? = some y := by
              rw [hb2, Nat.add_right_comm, List.getElem?_cons_succ, List.getElem?_append_right (by omega)]
              have : g.length + (m + 1) - g.length = m + 1 := by omega
              rw [this, List.getElem?_cons_succ]; exact hm
            exact hu (hc 0 (g.length + 1) (g.length + 1 + (m + 1)) x u y (by omega) (by omega) rfl e1 e2 he.symm).symm
      generalize b.takeWhile (fun y : Ltr => decide (pre d y.2 = pre d x.2)) = g at *
      generalize b.dropWhile (fun y : Ltr => decide (pre d y.2 = pre d x.2)) = r at *
      subst hsplit
      have hcr : Contig d r := by
        have h2 := contig_drop (n := g.length + 1) hc
        have e : (x :: (g ++ r)).drop (g.length + 1) = r := by simp
        rw [e] at h2
        exact h2
      have ihr := ih r (by simp at hb; omega) hcr
      have hcnt : cntP d (x :: (g ++ r)) (pre d x.2) = g.length + 1 := by
        unfold cntP
        have e1 : g.filter (fun y => decide (pre d y.2 = pre d x.2)) = g := List.filter_eq_self.2 fun y hy => by simp [hg y hy]
        have e2 : r.filter (fun y => decide (pre d y.2 = pre d x.2)) = [] := List.filter_eq_nil_iff.2 fun y hy => by simp [hr y hy]
        rw [List.filter_cons, List.filter_append, e1, e2]
        simp
      have hrest : needs size d (cntP d (x :: (g ++ r))) none r = needs size d (cntP d r) none r := by
        refine needs_congr r none fun y hy => ?_
        unfold cntP
        have e1 : g.filter (fun z => decide (pre d z.2 = pre d y.2)) = [] := List.filter_eq_nil_iff.2 fun z hz => by
          have := hr y hy
          simp [hg z hz]; exact fun e => this e.symm
        have e0 : pre d x.2 ≠ pre d y.2 := fun e => hr y hy e.symm
        rw [List.filter_cons, List.filter_append, e1]
        simp [e0]
      rw [needs, if_neg (by simp), hcnt, needs_same g r hg, needs_new r hr, hrest, ihr]
      -- the trays
      have hfill : fillT size d (x :: (g ++ r)) = fillT size d (x :: g) ++ fillT size d r := by
        have e : x :: (g ++ r) = (x :: g) ++ r := rfl
        rw [e]
        conv => lhs; unfold fillT
        rw [List.foldl_append]
        have hga : ∀ y ∈ x :: g, pre d y.2 = pre d x.2 := fun y hy => by
          rcases List.mem_cons.1 hy with rfl | hy
          · rfl
          · exact hg y hy
        have hall := fill_all (d := d) hs (x :: g)
        have hmem : ∀ t ∈ fillT size d (x :: g), ∀ y ∈ t, y ∈ x :: g := fun t ht y hy => by
          rw [← hall.2]; exact List.mem_flatten.2 ⟨t, ht, hy⟩
        refine fill_behind _ r (fun t ht y hy z hz => ?_) (fun t ht e => by have := (hall.1.one t ht).1; subst e; simp at this)
        rw [hga y (hmem t (List.mem_of_getLast? ht) y (List.mem_of_getLast? hy))]
        have hzr : z ∈ r := by
          cases r with
          | nil => simp at hz
          | cons a r => simp at hz; subst hz; simp
        exact fun e => hr z hzr e.symm
      have hlen : (fillT size d (x :: g)).length = ceil (g.length + 1) size := by
        rw [fill_alike (h := pre d x.2) (fun y hy => by
          rcases List.mem_cons.1 hy with rfl | hy
          · rfl
          · exact hg y hy), fill0_count hs]
        rfl
      rw [hfill, List.length_append, hlen]

end Go.Proofs.YtfhnjpjlpddpmaaDoor
