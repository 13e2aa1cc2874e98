/- Plain lists: first fit against the best loading. No program in sight. -/
import Derived.Test.YtiochiokcefbkaaTkFitMath
import Derived.Test.YtiochiokcefbkaaTkCanMath
import Derived.Test.YtiochiokcefbkaaTkLoadMath
import Derived.Test.YtiochiokcefbkaaTkSortMath
namespace Go.Proofs.Ytiochiokcefbkaa
open Go.RowKit
set_option linter.unusedVariables false

/-- Fits, along a permutation of the weights. -/
theorem fits_perm {n : Nat} {cap : Int} {ws ws' : List Int} (h : ws.Perm ws') : ∀ f, Fits n cap ws f → Fits n cap ws' f := by
  induction h with
  | nil => exact fun f h => h
  | cons x _ ih =>
    intro f h
    obtain ⟨t, ht, h2⟩ := (fits_cons _ _ _ _ _).1 h
    exact (fits_cons _ _ _ _ _).2 ⟨t, ht, ih _ h2⟩
  | swap x y l =>
    intro f h
    obtain ⟨t, ht, h2⟩ := (fits_cons _ _ _ _ _).1 h
    obtain ⟨s, hs, h3⟩ := (fits_cons _ _ _ _ _).1 h2
    refine (fits_cons _ _ _ _ _).2 ⟨s, hs, (fits_cons _ _ _ _ _).2 ⟨t, ht, fits_congr (fun k _ => ?_) h3⟩⟩
    (try dsimp only); omega
  | trans _ _ ih1 ih2 => exact fun f h => ih2 f (ih1 f h)

theorem fitsN_perm {n : Nat} {cap : Int} {ws ws' : List Int} (h : ws.Perm ws') : FitsN n cap ws ↔ FitsN n cap ws' := ⟨fits_perm h _, fits_perm h.symm _⟩
theorem wv_perm {cap : Int} {ws ws' : List Int} (h : ws.Perm ws') : wv ws cap = wv ws' cap := by
  have h1 : (ws.all fun x => inB x 1 cap) = (ws'.all fun x => inB x 1 cap) := by
    rw [Bool.eq_iff_iff, List.all_eq_true, List.all_eq_true]
    exact ⟨fun q x hx => q x (h.mem_iff.2 hx), fun q x hx => q x (h.mem_iff.1 hx)⟩
  rw [wv, wv, h1, h.length_eq]

/-- The least number of trucks is the least n for which the weights fit. -/
theorem leastT_fits {ws : List Int} {cap : Int} (h : wv ws cap = true) : FitsN (leastT ws cap) cap ws := (can_zero h _).1 (leastT_spec h).2.1
theorem leastT_min {ws : List Int} {cap : Int} (h : wv ws cap = true) {m : Nat} (hm : FitsN m cap ws) : leastT ws cap ≤ m := by
  apply Nat.le_of_not_lt
  intro hlt
  have := (leastT_spec h).2.2 m hlt
  rw [(can_zero h m).2 hm] at this
  cases this
theorem lt_val {ws : List Int} {cap : Int} (h : wv ws cap = true) : lt ws cap = (leastT ws cap : Int) := by simp [lt, h]
theorem leastT_perm {ws ws' : List Int} {cap : Int} (h : ws.Perm ws') (hv : wv ws cap = true) : leastT ws' cap = leastT ws cap := by
  have hv' : wv ws' cap = true := by rw [← wv_perm h]; exact hv
  apply Nat.le_antisymm
  · exact leastT_min hv' ((fitsN_perm h).1 (leastT_fits hv))
  · exact leastT_min hv ((fitsN_perm h).2 (leastT_fits hv'))

/-- A sum over the first n trucks. -/
def sumTo (f : Nat → Int) : Nat → Int
  | 0 => 0
  | n + 1 => sumTo f n + f n
theorem sumTo_le {f f' : Nat → Int} {n : Nat} (h : ∀ k, k < n → f k ≤ f' k) : sumTo f n ≤ sumTo f' n := by
  induction n with
  | zero => exact Int.le_refl _
  | succ n ih =>
    have h1 := ih (fun k hk => h k (by omega))
    have h2 := h n (by omega)
    simp only [sumTo]; omega
theorem sumTo_const (c : Int) (n : Nat) : sumTo (fun _ => c) n = n * c := by
  induction n with
  | zero => simp [sumTo]
  | succ n ih => simp only [sumTo, ih]; rw [Int.natCast_add, Int.add_mul]; simp
theorem sumTo_add (f f' : Nat → Int) (n : Nat) : sumTo (fun k => f k + f' k) n = sumTo f n + sumTo f' n := by
  induction n with
  | zero => rfl
  | succ n ih => simp only [sumTo, ih]; omega
theorem sumTo_one (t : Nat) (x : Int) (n : Nat) : sumTo (fun k => if t = k then x else 0) n = if t < n then x else 0 := by
  induction n with
  | zero => simp [sumTo]
  | succ n ih =>
    simp only [sumTo, ih]
    by_cases h1 : t < n
    · rw [if_pos h1, if_neg (by omega), if_pos (by omega)]; omega
    · by_cases h2 : t = n
      · rw [if_neg h1, if_pos h2, if_pos (by omega)]; omega
      · rw [if_neg h1, if_neg h2, if_neg (by omega)]; omega
theorem sumTo_nonneg {f : Nat → Int} {n m : Nat} (h : ∀ k, 0 ≤ f k) (hnm : n ≤ m) : sumTo f n ≤ sumTo f m := by
  induction m with
  | zero => have : n = 0 := by omega
            subst this; exact Int.le_refl _
  | succ m ih =>
    rcases Nat.lt_or_ge m n with h1 | h1
    · have : n = m + 1 := by omega
      subst this; exact Int.le_refl _
    · have := ih h1
      have := h m
      simp only [sumTo]; omega

/-- What lies in the trucks from b on. -/
def extOf (b : Nat) : List Nat → List Int → Int
  | t :: g, x :: ws => (if b ≤ t then x else 0) + extOf b g ws
  | _, _ => 0
theorem sumOf_nil (ws : List Int) (k : Nat) : sumOf [] ws k = 0 := by cases ws <;> rfl
theorem sumOf_nil' (g : List Nat) (k : Nat) : sumOf g [] k = 0 := by cases g <;> rfl
theorem sumTo_zero (n : Nat) : sumTo (fun _ => 0) n = 0 := by
  induction n with
  | zero => rfl
  | succ n ih => simp only [sumTo, ih]; rfl
theorem sumTo_ext (b : Nat) : ∀ (g : List Nat) (ws : List Int), g.length = ws.length → sumTo (sumOf g ws) b + extOf b g ws = ws.sum
  | [], [], _ => by
    have : sumOf [] [] = fun _ => 0 := by funext k; rfl
    rw [this, sumTo_zero]; rfl
  | t :: g, x :: ws, h => by
    have ih := sumTo_ext b g ws (by simpa using h)
    have e : sumOf (t :: g) (x :: ws) = fun k => (if t = k then x else 0) + sumOf g ws k := by funext k; rfl
    rw [e, sumTo_add, sumTo_one, extOf, List.sum_cons]
    by_cases hb : b ≤ t
    · rw [if_neg (by omega), if_pos hb]; omega
    · rw [if_pos (by omega), if_neg hb]; omega
  | [], _ :: _, h => by simp at h
  | _ :: _, [], h => by simp at h
theorem ext_zero {b : Nat} : ∀ (g : List Nat) (ws : List Int), (∀ t ∈ g, t < b) → extOf b g ws = 0
  | [], ws, _ => by cases ws <;> rfl
  | _ :: _, [], _ => rfl
  | t :: g, x :: ws, h => by
    have := h t (by simp)
    rw [extOf, if_neg (by omega), ext_zero g ws (fun s hs => h s (by simp [hs]))]; rfl
theorem ext_nonneg {b : Nat} : ∀ (g : List Nat) (ws : List Int), (∀ x ∈ ws, 0 ≤ x) → 0 ≤ extOf b g ws
  | [], ws, _ => by cases ws <;> simp [extOf]
  | _ :: _, [], _ => by simp [extOf]
  | t :: g, x :: ws, h => by
    have h1 := h x (by simp)
    have h2 := ext_nonneg (b := b) g ws (fun s hs => h s (by simp [hs]))
    rw [extOf]; split <;> omega
theorem sumOf_nn : ∀ (g : List Nat) (ws : List Int) (k : Nat), (∀ x ∈ ws, 0 ≤ x) → 0 ≤ sumOf g ws k
  | [], ws, k, _ => by rw [sumOf_nil]; exact Int.le_refl _
  | _ :: _, [], _, _ => by simp [sumOf]
  | t :: g, x :: ws, k, h => by
    have h1 := sumOf_nn g ws k (fun y hy => h y (by simp [hy]))
    have h2 := h x (by simp)
    simp only [sumOf]
    split <;> omega
/-- All loads together are no less than those of some trucks. -/
theorem sum_ge {g : List Nat} {ws : List Int} (hl : g.length = ws.length) (hw : ∀ x ∈ ws, 0 ≤ x) (n : Nat) : sumTo (sumOf g ws) n ≤ ws.sum := by
  have h1 := sumTo_ext n g ws hl
  have h2 := ext_nonneg (b := n) g ws hw
  omega
theorem sum_all {g : List Nat} {ws : List Int} {n : Nat} (hl : g.length = ws.length) (hg : ∀ t ∈ g, t < n) : sumTo (sumOf g ws) n = ws.sum := by
  have h1 := sumTo_ext n g ws hl
  rw [ext_zero g ws hg] at h1
  omega
theorem fitsN_sum {n : Nat} {cap : Int} {ws : List Int} (h : FitsN n cap ws) : ws.sum ≤ n * cap := by
  obtain ⟨g, hl, hlt, hk⟩ := h
  rw [← sum_all hl hlt, ← sumTo_const]
  exact sumTo_le fun k hk' => by have := hk k hk'; dsimp only at this; omega

/-- The weights of one truck. -/
def itemsOf : List Nat → List Int → Nat → List Int
  | t :: g, x :: ws, k => if t = k then x :: itemsOf g ws k else itemsOf g ws k
  | _, _, _ => []
theorem items_mem : ∀ (g : List Nat) (ws : List Int) (k : Nat), ∀ x ∈ itemsOf g ws k, x ∈ ws
  | [], ws, k, x, h => by cases ws <;> simp [itemsOf] at h
  | _ :: _, [], k, x, h => by simp [itemsOf] at h
  | t :: g, y :: ws, k, x, h => by
    rw [itemsOf] at h
    split at h
    · rcases List.mem_cons.1 h with rfl | h
      · simp
      · simp [items_mem g ws k x h]
    · simp [items_mem g ws k x h]
theorem sumOf_items (φ : Int → Int) : ∀ (g : List Nat) (ws : List Int) (k : Nat), sumOf g (ws.map φ) k = ((itemsOf g ws k).map φ).sum
  | [], ws, k => by cases ws <;> rfl
  | _ :: _, [], k => rfl
  | t :: g, y :: ws, k => by
    simp only [List.map_cons, sumOf, itemsOf, sumOf_items φ g ws k]
    split <;> simp
theorem sumOf_items' (g : List Nat) (ws : List Int) (k : Nat) : sumOf g ws k = (itemsOf g ws k).sum := by
  have := sumOf_items id g ws k
  simpa using this

/-- Weights of more than half the capacity need a truck each. -/
theorem fitsN_large {n : Nat} {cap : Int} {ws : List Int} (hw : ∀ x ∈ ws, 1 ≤ x) (hc : 0 ≤ cap) (h : FitsN n cap ws) : (ws.map (fun x => if 2 * x > cap then (1 : Int) else 0)).sum ≤ n := by
  obtain ⟨g, hl, hlt, hk⟩ := h
  rw [← sum_all (g := g) (n := n) (by simpa using hl) hlt]
  have h1 : ∀ k, k < n → sumOf g (ws.map (fun x => if 2 * x > cap then (1 : Int) else 0)) k ≤ 1 := by
    intro k hkn
    have h2 := hk k hkn
    rw [sumOf_items]
    rw [sumOf_items'] at h2
    have hmem := items_mem g ws k
    generalize itemsOf g ws k = l at *
    match l, hmem, h2 with
    | [], _, _ => simp
    | [x], _, _ => simp; split <;> omega
    | x :: y :: l, hmem, h2 =>
      have key : ∀ l : List Int, (∀ x ∈ l, 1 ≤ x) → (cap + 1) * (l.map (fun x => if 2 * x > cap then (1 : Int) else 0)).sum ≤ 2 * l.sum := by
        intro l
        induction l with
        | nil => intro _; simp
        | cons x l ih =>
          intro hl
          have h3 := ih (fun y hy => hl y (by simp [hy]))
          have h4 := hl x (by simp)
          simp only [List.map_cons, List.sum_cons, Int.mul_add]
          split
          · omega
          · omega
      have h5 := key _ (fun z hz => hw z (hmem z hz))
      dsimp only at h2
      generalize hq : (List.map (fun x => if 2 * x > cap then (1 : Int) else 0) (x :: y :: l)).sum = q at *
      have h6 : (cap + 1) * q ≤ 2 * cap := by omega
      apply Int.not_lt.1
      intro hgt
      have h7 : (cap + 1) * 2 ≤ (cap + 1) * q := Int.mul_le_mul_of_nonneg_left (by omega) (by omega)
      omega
  have h2 := sumTo_le (f := sumOf g (ws.map (fun x => if 2 * x > cap then (1 : Int) else 0))) (f' := fun _ => 1) (n := n) h1
  rw [sumTo_const] at h2
  omega

/-- One weight less, and one weight more. -/
theorem fitsN_tail {n : Nat} {cap x : Int} {ws : List Int} (hx : 0 ≤ x) (h : FitsN n cap (x :: ws)) : FitsN n cap ws := by
  obtain ⟨t, ht, g, hl, hlt, hk⟩ := (fits_cons _ _ _ _ _).1 h
  refine ⟨g, hl, hlt, fun k hkn => ?_⟩
  have := hk k hkn
  dsimp only at this ⊢
  split at this <;> omega
theorem sumOf_out : ∀ (g : List Nat) (ws : List Int) (k : Nat), (∀ t ∈ g, t ≠ k) → sumOf g ws k = 0
  | [], ws, k, _ => sumOf_nil ws k
  | _ :: _, [], k, _ => rfl
  | t :: g, x :: ws, k, h => by
    rw [sumOf, if_neg (h t (by simp)), sumOf_out g ws k (fun s hs => h s (by simp [hs]))]; rfl
theorem fitsN_more {n : Nat} {cap x : Int} {ws : List Int} (hx : x ≤ cap) (h : FitsN n cap ws) : FitsN (n + 1) cap (x :: ws) := by
  obtain ⟨g, hl, hlt, hk⟩ := h
  refine (fits_cons _ _ _ _ _).2 ⟨n, by omega, g, hl, fun t ht => by have := hlt t ht; omega, fun k hkn => ?_⟩
  by_cases hkn' : k < n
  · have := hk k hkn'
    dsimp only at this ⊢
    rw [if_neg (by omega)]; omega
  · have : k = n := by omega
    subst this
    dsimp only
    rw [if_pos rfl, sumOf_out g ws k (fun t ht => by have := hlt t ht; omega)]
    omega
theorem fitsN_prefix {n : Nat} {cap : Int} {ws : List Int} (hw : ∀ x ∈ ws, 0 ≤ x) (h : FitsN n cap ws) (j : Nat) : FitsN n cap (ws.take j) := by
  obtain ⟨g, hl, hlt, hk⟩ := h
  refine ⟨g.take j, by simp [hl], fun t ht => hlt t (List.mem_of_mem_take ht), fun k hkn => ?_⟩
  have key : ∀ (g : List Nat) (ws : List Int) (j : Nat), (∀ x ∈ ws, 0 ≤ x) → sumOf (g.take j) (ws.take j) k ≤ sumOf g ws k := by
    intro g
    induction g with
    | nil => intro ws j _; simp [sumOf_nil]
    | cons t g ih =>
      intro ws j hw
      cases ws with
      | nil => simp [sumOf_nil']
      | cons x ws =>
        cases j with
        | zero => simp only [List.take_zero, sumOf_nil]; exact sumOf_nn _ _ _ hw
        | succ j =>
          simp only [List.take_succ_cons, sumOf]
          have := ih ws j (fun y hy => hw y (by simp [hy]))
          omega
  have h1 := key g ws j hw
  have h2 := hk k hkn
  dsimp only at h2 ⊢
  omega

/-- What the law on the least number of trucks says. -/
theorem least_law {ws : List Int} {cap : Int} (h : wv ws cap = true) :
    ws.sum ≤ leastT ws cap * cap ∧ (ws.map (fun x => if 2 * x > cap then (1 : Int) else 0)).sum ≤ leastT ws cap ∧ leastT ws cap ≤ ws.length ∧ leastT ws.reverse cap = leastT ws cap ∧
      ∀ x l, ws = x :: l → wv l cap = true ∧ (leastT l cap = leastT ws cap ∨ leastT l cap + 1 = leastT ws cap) := by
  obtain ⟨h1, h2, h3, h4⟩ := wv_parts h
  have hf := leastT_fits h
  refine ⟨fitsN_sum hf, fitsN_large (fun x hx => (h1 x hx).1) (by omega) hf, (leastT_spec h).1, leastT_perm (List.reverse_perm _).symm h, ?_⟩
  rintro x l rfl
  have hv : wv l cap = true := by
    simp only [wv, Bool.and_eq_true, List.all_eq_true, decide_eq_true_eq, inB_true]
    exact ⟨fun y hy => h1 y (by simp [hy]), by simp at h2; omega, h3, h4⟩
  refine ⟨hv, ?_⟩
  have hx := h1 x (by simp)
  have a1 := leastT_min hv (fitsN_tail (by omega) hf)
  have a2 := leastT_min h (fitsN_more (x := x) (by omega) (leastT_fits hv))
  omega

end Go.Proofs.Ytiochiokcefbkaa
