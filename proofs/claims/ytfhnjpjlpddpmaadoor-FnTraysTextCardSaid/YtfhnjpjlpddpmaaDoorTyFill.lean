
/- What filling trays does to the memory, and what it computes round for round. -/
import Derived.Test.YtfhnjpjlpddpmaaDoorTy7
import Derived.Test.YtfhnjpjlpddpmaaDoorStr
namespace Go.Proofs.YtfhnjpjlpddpmaaDoor
open Go.RowKit
set_option linter.unusedVariables false

theorem ne_types : (35 : TypeId) ≠ 33 := by decide
/-- A tray more. -/
theorem tray_new {w w2 w3 : World} {lo n : Nat} {v v' u : Value} {us : List Value} {xss : List (List Ltr)} {ys : List Ltr} (hlo : lo ≤ w.heap.size) (hv : w.ownsRow lo 33 1 v n us) (hr : RowsL w lo w.heap.size us xss)
    (hb : Below w.heap.size w w2) (ho : Own w2 w.heap.size w2.heap.size 35 2 u ys.length (lcs ys)) (h3 : w3.ownsRow lo 33 1 v' (n + 1) (us ++ [u])) (hg : w2.grownBy w3 v.ownBlock) :
    w3.ownsRow lo 33 1 v' (n + 1) (us ++ [u]) ∧ RowsL w3 lo w3.heap.size (us ++ [u]) (xss ++ [ys]) := by
  have hr2 := Rows.push hr hb hlo ho
  have hv2 := own_below hv hb
  refine ⟨h3, ?_⟩
  have hk := Rows.kept hr2 hg fun z hz => by
    obtain ⟨ys, hz⟩ := Rows.mem hr2 hz
    exact apart_row (own_apart_type hz.row hv2 ne_types)
  exact Rows.wide hk (Nat.le_refl _) hg.size
theorem moved_gap {w : World} {v u u' : Value} {lo : Nat} (hm : Moved w u u') (ha : Apart v u) (ht : ∀ g, v.ownBlock = some g → g < w.heap.size) : Apart v u' := fun g hg hu => by
  rcases hm with h | h
  · exact ha g hg (h ▸ hu)
  · rw [h] at hu
    injection hu with hu
    have := ht g hg
    omega
/-- A letter more in tray k. -/
theorem tray_more {w w2 w3 w4 : World} {lo n k : Nat} {v u u' : Value} {us : List Value} {xss : List (List Ltr)} {t ys : List Ltr} (hlo : lo ≤ w.heap.size) (hv : w.ownsRow lo 33 1 v n us) (hr : RowsL w lo w.heap.size us xss)
    (hu : us[k]? = some u) (hx : xss[k]? = some t) (hb : Below w.heap.size w w2) (h3 : w3.ownsRow lo 35 2 u' ys.length (lcs ys)) (hg : w2.grownBy w3 u.ownBlock) (hm : Moved w2 u u')
    (h4 : w4.ownsRow lo 33 1 v n (us.set k u')) (hg4 : w3.grownBy w4 v.ownBlock) :
    w4.ownsRow lo 33 1 v n (us.set k u') ∧ RowsL w4 lo w4.heap.size (us.set k u') (xss.set k ys) := by
  have hv2 := own_below hv hb
  have hr2 := Rows.wide (hr.below hb) (Nat.le_refl _) hb.size
  have hu2 := hr2.row k u t hu hx
  have hv3 : w3.ownsRow lo 33 1 v n us := hv2.kept hg (apart_row (own_apart_type hv2 hu2.row ne_types.symm))
  have hgap : ∀ (i : Nat) (z : Value), i ≠ k → us[i]? = some z → Apart z u := fun i z hik hz => by
    rcases Nat.lt_or_gt_of_ne hik with h | h
    · exact hr2.apart i k z u h hz hu
    · exact (hr2.apart k i u z h hu hz).symm
  refine ⟨h4, ?_⟩
  refine Rows.wide (Rows.set (w' := w4) (lo := lo) (hi := w4.heap.size) (Rows.wide hr2 (Nat.le_refl _) (Nat.le_trans hg.size hg4.size)) ?_ ?_ ?_) (Nat.le_refl _) (Nat.le_refl _)
  · exact own_of (h3.kept hg4 (apart_row (own_apart_type h3 hv3 ne_types)))
  · intro i z zs hik hz hzs
    have h := hr2.row i z zs hz hzs
    have a2 : w3.ownsRow lo 35 2 z zs.length (lcs zs) := h.row.kept hg (apart_row (hgap i z hik hz))
    exact own_of (a2.kept hg4 (apart_row (own_apart_type a2 hv3 ne_types)))
  · intro i z hik hz
    have hl := (List.getElem?_eq_some_iff.1 hz).1
    have h := hr2.row i z _ hz (List.getElem?_eq_getElem (by have := hr2.len; omega))
    exact moved_gap (lo := lo) hm (hgap i z hik hz) fun g hg => (h.row.lt g hg).2

section
variable {size d : Nat} {b : List Ltr} {k : Nat} {x y : Ltr} {t : List Ltr}
theorem fill_first (hx : b[0]? = some x) : fillT size d (b.take 1) = [[x]] := by
  rw [fillT_snoc hx]; rfl
theorem fill_len : (fillT size d (b.take k)).flatten.length = min k b.length := by
  rcases Nat.eq_zero_or_pos size with h | h
  · have key : ∀ (l : List Ltr) (ts : List (List Ltr)), (l.foldl (stepT size d) ts).flatten = ts.flatten ++ l := by
      intro l
      induction l with
      | nil => intro ts; simp
      | cons a l ih => intro ts; rw [List.foldl_cons, ih, stepT_flat]; simp
    rw [fillT, key]; simp
  · rw [(fill_all h _).2, List.length_take]
theorem fill_flat : (fillT size d (b.take k)).flatten = b.take k := by
  have key : ∀ (l : List Ltr) (ts : List (List Ltr)), (l.foldl (stepT size d) ts).flatten = ts.flatten ++ l := by
    intro l
    induction l with
    | nil => intro ts; simp
    | cons a l ih => intro ts; rw [List.foldl_cons, ih, stepT_flat]; simp
  rw [fillT, key]; rfl
/-- The last tray behind k letters, and its last letter. -/
theorem fill_last (hs : 1 ≤ size) (hk : 0 < k) (hkl : k ≤ b.length) : ∃ t, (fillT size d (b.take k))[(fillT size d (b.take k)).length - 1]? = some t ∧ (fillT size d (b.take k)).getLast? = some t ∧ t.getLast? = b[k - 1]? ∧ 1 ≤ t.length ∧ 0 < (fillT size d (b.take k)).length := by
  have hf := fill_flat (size := size) (d := d) (b := b) (k := k)
  have hok := (fill_all (size := size) (d := d) hs (b.take k)).1
  generalize hts : fillT size d (b.take k) = ts at *
  have hne : ts ≠ [] := by
    rintro rfl
    have := congrArg List.length hf
    simp at this; omega
  obtain ⟨t, ht⟩ : ∃ t, ts.getLast? = some t := by
    cases h : ts.getLast? with
    | none => rw [List.getLast?_eq_none_iff] at h; exact absurd h hne
    | some t => exact ⟨t, rfl⟩
  have hpos := List.length_pos_iff.2 hne
  have h1 := hok.one t (List.mem_of_getLast? ht)
  refine ⟨t, by rw [← List.getLast?_eq_getElem?]; exact ht, ht, ?_, h1.1, hpos⟩
  have hfl := flat_last ht
  rw [hf] at hfl
  have hl : (b.take k).getLast? = t.getLast? := by
    rw [← hfl, List.getLast?_append]
    cases h : t.getLast? with
    | none => rw [List.getLast?_eq_none_iff] at h; subst h; simp at h1
    | some z => rfl
  rw [← hl, List.getLast?_take]
  have : k ≠ 0 := by omega
  simp only [this, if_false]
  rw [List.getElem?_eq_getElem (by omega)]; rfl
theorem fill_new (hx : b[k]? = some x) (hy : b[k - 1]? = some y) (ht : (fillT size d (b.take k)).getLast? = some t) (hl : t.getLast? = b[k - 1]?) (hc : t.length = size ∨ pre d x.2 ≠ pre d y.2) : fillT size d (b.take (k + 1)) = fillT size d (b.take k) ++ [[x]] := by
  rw [fillT_snoc hx, stepT, ht]
  simp only
  rw [hl, hy, if_pos]
  rcases hc with h | h
  · exact .inl h
  · right; simp; exact fun e => h e.symm
theorem set_last {α : Type} {ts : List α} {t u : α} (h : ts.getLast? = some t) : ts.set (ts.length - 1) u = ts.dropLast ++ [u] := by
  obtain ⟨us, rfl⟩ := List.getLast?_eq_some_iff.1 h
  simp
theorem fill_more (hx : b[k]? = some x) (hy : b[k - 1]? = some y) (ht : (fillT size d (b.take k)).getLast? = some t) (hl : t.getLast? = b[k - 1]?) (hc : t.length ≠ size) (hc2 : pre d x.2 = pre d y.2) : fillT size d (b.take (k + 1)) = (fillT size d (b.take k)).set ((fillT size d (b.take k)).length - 1) (t ++ [x]) := by
  rw [fillT_snoc hx, set_last ht, stepT, ht]
  simp only
  rw [hl, hy, if_neg]
  rintro (h | h)
  · exact hc h
  · apply h; simp; exact hc2.symm
theorem fill_count (hs : 1 ≤ size) (hkl : k ≤ b.length) : (fillT size d (b.take k)).length ≤ k := by
  have hf := fill_flat (size := size) (d := d) (b := b) (k := k)
  have hok := (fill_all (size := size) (d := d) hs (b.take k)).1
  have key : ∀ l : List (List Ltr), (∀ t ∈ l, 1 ≤ t.length) → l.length ≤ l.flatten.length := by
    intro l
    induction l with
    | nil => simp
    | cons a l ih =>
      intro h
      have h1 := h a (by simp)
      have h2 := ih fun t ht => h t (by simp [ht])
      rw [List.flatten_cons, List.length_append, List.length_cons]; omega
  have := key _ fun t ht => (hok.one t ht).1
  rw [hf, List.length_take] at this
  omega
end

end Go.Proofs.YtfhnjpjlpddpmaaDoor
