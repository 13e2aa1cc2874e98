/- Plain lists: the trucks that first fit gives, and bounds of their number. No program in sight. -/
import Derived.Test.YtiochiokcefbkaaTkBestMath
namespace Go.Proofs.Ytiochiokcefbkaa
open Go.RowKit
set_option linter.unusedVariables false

/-- The trucks that first fit gives, one weight after the other; ld: the loads so far. -/
def putIn (cap : Int) (ld : List Int) (x : Int) : List Int := ld.set (room ld x cap) (ld.getD (room ld x cap) 0 + x)
def runFit (cap : Int) : List Int → List Int → List Nat
  | _, [] => []
  | ld, x :: ws => room ld x cap :: runFit cap (putIn cap ld x) ws
theorem run_length (cap : Int) : ∀ (ws ld : List Int), (runFit cap ld ws).length = ws.length
  | [], _ => rfl
  | x :: ws, ld => by simp [runFit, run_length cap ws]

/-- From truck j on there are m empty trucks. -/
def Zs (ld : List Int) (j m : Nat) : Prop := ∀ k, j ≤ k → k < j + m → ld[k]? = some 0
theorem zs_room {ld : List Int} {j m : Nat} {x cap : Int} (h : Zs ld j (m + 1)) (hx : x ≤ cap) : room ld x cap ≤ j ∧ j < ld.length := by
  have h0 := h j (Nat.le_refl _) (by omega)
  exact ⟨room_le h0 (by omega), (List.getElem?_eq_some_iff.1 h0).1⟩
theorem zs_step {ld : List Int} {j m : Nat} {x cap : Int} (h : Zs ld j (m + 1)) (hx : x ≤ cap) : Zs (putIn cap ld x) (j + 1) m := by
  intro k hk hk2
  have hr := (zs_room h hx).1
  rw [putIn, List.getElem?_set_ne (by omega)]
  exact h k (by omega) (by omega)
theorem zs_start (n : Nat) : Zs (List.replicate n 0) 0 n := fun k _ hk => by simp [show k < n by omega]
theorem putIn_getD {ld : List Int} {x cap : Int} (h : room ld x cap < ld.length) (k : Nat) : (putIn cap ld x).getD k 0 = ld.getD k 0 + if room ld x cap = k then x else 0 := by
  rw [putIn, getD_set' _ _ _ _ h]
  by_cases hk : room ld x cap = k
  · subst hk; rw [if_pos rfl, if_pos rfl]
  · rw [if_neg hk, if_neg hk]; omega

theorem run_lt {cap : Int} : ∀ (ws ld : List Int) (j : Nat), Zs ld j ws.length → (∀ x ∈ ws, x ≤ cap) → ∀ t ∈ runFit cap ld ws, t < j + ws.length
  | [], _, _, _, _, t, h => by simp [runFit] at h
  | x :: ws, ld, j, hz, hx, t, h => by
    have h0 := zs_room hz (hx x (by simp))
    rcases List.mem_cons.1 h with rfl | h
    · simp; omega
    · have := run_lt ws _ _ (zs_step hz (hx x (by simp))) (fun y hy => hx y (by simp [hy])) t h
      simp; omega
/-- No truck is overloaded. -/
theorem run_cap {cap : Int} : ∀ (ws ld : List Int) (j : Nat), Zs ld j ws.length → (∀ x ∈ ws, x ≤ cap) → (∀ k, ld.getD k 0 ≤ cap) → ∀ k, ld.getD k 0 + sumOf (runFit cap ld ws) ws k ≤ cap
  | [], ld, _, _, _, h, k => by have := h k; rw [sumOf_nil']; omega
  | x :: ws, ld, j, hz, hx, h, k => by
    have h0 := zs_room hz (hx x (by simp))
    have hrl : room ld x cap < ld.length := by omega
    obtain ⟨y, hy, hyc⟩ := room_at hrl
    have hgd : ld.getD (room ld x cap) 0 = y := by rw [List.getD_eq_getElem?_getD, hy]; rfl
    have ih := run_cap ws (putIn cap ld x) (j + 1) (zs_step hz (hx x (by simp))) (fun y hy => hx y (by simp [hy])) (fun k => by
      rw [putIn_getD hrl]
      have := h k
      by_cases hk : room ld x cap = k
      · rw [if_pos hk, ← hk, hgd]; omega
      · rw [if_neg hk]; omega) k
    rw [putIn_getD hrl] at ih
    simp only [runFit, sumOf]
    omega
/-- A weight has no room in the trucks before its own. -/
theorem run_full {cap : Int} : ∀ (ws ld : List Int) (j : Nat), Zs ld j ws.length → (∀ x ∈ ws, x ≤ cap) → ∀ (i r : Nat) (x : Int), ws[i]? = some x → (runFit cap ld ws)[i]? = some r →
    ∀ k, k < r → cap < ld.getD k 0 + sumOf ((runFit cap ld ws).take i) (ws.take i) k + x
  | [], _, _, _, _, i, r, x, h, _, _, _ => by simp at h
  | y :: ws, ld, j, hz, hx, i, r, x, hi, hr, k, hk => by
    have h0 := zs_room hz (hx y (by simp))
    have hrl : room ld y cap < ld.length := by omega
    cases i with
    | zero =>
      simp only [List.getElem?_cons_zero, Option.some.injEq, runFit] at hi hr
      subst hi hr
      obtain ⟨z, hz2, hzc⟩ := room_before hk
      rw [List.take_zero, sumOf_nil, List.getD_eq_getElem?_getD, hz2]
      simp only [Option.getD_some]
      omega
    | succ i =>
      simp only [List.getElem?_cons_succ, runFit] at hi hr
      have ih := run_full ws (putIn cap ld y) (j + 1) (zs_step hz (hx y (by simp))) (fun y hy => hx y (by simp [hy])) i r x hi hr k hk
      rw [putIn_getD hrl] at ih
      simp only [runFit, List.take_succ_cons, sumOf]
      omega

theorem sumOf_take : ∀ (g : List Nat) (ws : List Int) (i k : Nat), (∀ x ∈ ws, 0 ≤ x) → sumOf (g.take i) (ws.take i) k ≤ sumOf g ws k
  | [], ws, i, k, _ => by simp [sumOf_nil]
  | _ :: _, [], i, k, _ => by simp [sumOf_nil']
  | t :: g, x :: ws, i, k, h => by
    cases i with
    | zero => simp only [List.take_zero, sumOf_nil]; exact sumOf_nn _ _ _ h
    | succ i =>
      simp only [List.take_succ_cons, sumOf]
      have := sumOf_take g ws i k (fun y hy => h y (by simp [hy]))
      omega
/-- A weight in truck k is a part of its load, beside those before it. -/
theorem sumOf_with : ∀ (g : List Nat) (ws : List Int) (i k : Nat) (x : Int), (∀ x ∈ ws, 0 ≤ x) → g[i]? = some k → ws[i]? = some x → sumOf (g.take i) (ws.take i) k + x ≤ sumOf g ws k
  | [], ws, i, k, x, _, h, _ => by simp at h
  | _ :: _, [], i, k, x, _, _, h => by simp at h
  | t :: g, y :: ws, i, k, x, h, hi, hx => by
    cases i with
    | zero =>
      simp only [List.getElem?_cons_zero, Option.some.injEq] at hi hx
      subst hi hx
      simp only [List.take_zero, sumOf_nil, sumOf, if_true]
      have := sumOf_nn g ws t (fun y hy => h y (by simp [hy]))
      omega
    | succ i =>
      simp only [List.getElem?_cons_succ] at hi hx
      have := sumOf_with g ws i k x (fun y hy => h y (by simp [hy])) hi hx
      simp only [List.take_succ_cons, sumOf]
      omega

/-- The trucks of first fit, from empty ones. -/
def runs (cap : Int) (ws : List Int) : List Nat := runFit cap (List.replicate ws.length 0) ws
structure Runs (cap : Int) (ws : List Int) (g : List Nat) : Prop where
  len : g.length = ws.length
  lt : ∀ t ∈ g, t < ws.length
  load : ∀ k, sumOf g ws k ≤ cap
  full : ∀ (i r : Nat) (x : Int), ws[i]? = some x → g[i]? = some r → ∀ k, k < r → cap < sumOf (g.take i) (ws.take i) k + x
theorem runs_all {cap : Int} {ws : List Int} (hx : ∀ x ∈ ws, x ≤ cap) (hc : 0 ≤ cap) : Runs cap ws (runs cap ws) where
  len := run_length _ _ _
  lt := fun t ht => by have := run_lt ws _ 0 (zs_start _) hx t ht; omega
  load := fun k => by
    have := run_cap ws _ 0 (zs_start _) hx (fun k => by
      rw [List.getD_eq_getElem?_getD, List.getElem?_replicate]; split <;> simp [hc]) k
    have e : (List.replicate ws.length (0 : Int)).getD k 0 = 0 := by rw [List.getD_eq_getElem?_getD, List.getElem?_replicate]; split <;> simp
    rw [e] at this
    unfold runs
    omega
  full := fun i r x hi hr k hk => by
    have := run_full ws _ 0 (zs_start _) hx i r x hi hr k hk
    have e : (List.replicate ws.length (0 : Int)).getD k 0 = 0 := by rw [List.getD_eq_getElem?_getD, List.getElem?_replicate]; split <;> simp
    rw [e] at this
    unfold runs
    omega

/-- How many trucks. -/
def count (g : List Nat) : Nat := g.foldr (fun t n => max (t + 1) n) 0
theorem count_lt : ∀ (g : List Nat), ∀ t ∈ g, t < count g
  | [], t, h => by simp at h
  | s :: g, t, h => by
    simp only [count, List.foldr_cons]
    rcases List.mem_cons.1 h with rfl | h
    · omega
    · have := count_lt g t h
      unfold count at this
      omega
theorem count_mem : ∀ (g : List Nat), count g = 0 ∨ count g - 1 ∈ g
  | [] => .inl rfl
  | s :: g => by
    right
    have e : count (s :: g) = max (s + 1) (count g) := rfl
    rw [e]
    rcases count_mem g with h | h
    · rw [h]; simp
    · rcases Nat.lt_or_ge s (count g) with h1 | h1
      · rw [Nat.max_eq_right (by omega)]; simp [h]
      · rw [Nat.max_eq_left (by omega)]; simp
theorem count_eq {g g' : List Nat} (h : ∀ t, t ∈ g ↔ t ∈ g') : count g = count g' := by
  have key : ∀ a b : List Nat, (∀ t, t ∈ a → t ∈ b) → count a ≤ count b := by
    intro a b hab
    rcases count_mem a with h0 | h0
    · omega
    · have := count_lt b _ (hab _ h0); omega
  exact Nat.le_antisymm (key _ _ fun t ht => (h t).1 ht) (key _ _ fun t ht => (h t).2 ht)

section
variable {cap : Int} {ws : List Int} {g : List Nat}

theorem runs_fits (h : Runs cap ws g) : FitsN (count g) cap ws := ⟨g, h.len, count_lt g, fun k _ => by have := h.load k; dsimp only; omega⟩

theorem at_of {α : Type} {g : List α} {ws : List Int} {t : α} (hl : g.length = ws.length) (ht : t ∈ g) : ∃ (i : Nat) (x : Int), g[i]? = some t ∧ ws[i]? = some x := by
  obtain ⟨i, hi⟩ := List.getElem?_of_mem ht
  obtain ⟨hlt, _⟩ := List.getElem?_eq_some_iff.1 hi
  exact ⟨i, ws[i]'(by omega), hi, List.getElem?_eq_getElem _⟩
/-- Two trucks together have more than one can hold. -/
theorem runs_two (h : Runs cap ws g) (hw : ∀ x ∈ ws, 0 ≤ x) {i j : Nat} (hij : i < j) (hj : j ∈ g) : cap < sumOf g ws i + sumOf g ws j := by
  obtain ⟨k, x, hk, hx⟩ := at_of h.len hj
  have h1 := h.full k j x hx hk i hij
  have h2 := sumOf_take g ws k i hw
  have h3 := sumOf_with g ws k j x hw hk hx
  have h4 := sumOf_nn (g.take k) (ws.take k) j (fun y hy => hw y (List.mem_of_mem_take hy))
  omega
/-- Every truck below one that is used is used. -/
theorem runs_below (h : Runs cap ws g) (hw : ∀ x ∈ ws, x ≤ cap) {i j : Nat} (hij : i < j) (hj : j ∈ g) : i ∈ g := by
  obtain ⟨k, x, hk, hx⟩ := at_of h.len hj
  have h1 := h.full k j x hx hk i hij
  have h2 := hw x (List.mem_of_getElem? hx)
  apply Decidable.byContradiction
  intro hn
  rw [sumOf_out (g.take k) (ws.take k) i (fun t ht e => hn (e ▸ List.mem_of_mem_take ht))] at h1
  omega
theorem runs_used (h : Runs cap ws g) (hw : ∀ x ∈ ws, x ≤ cap) {i : Nat} (hi : i < count g) : i ∈ g := by
  rcases count_mem g with h0 | h0
  · omega
  · rcases Nat.lt_or_ge i (count g - 1) with h1 | h1
    · exact runs_below h hw h1 h0
    · have : i = count g - 1 := by omega
      rw [this]; exact h0
theorem fits_zero {ws : List Int} (h : FitsN 0 cap ws) : ws = [] := by
  obtain ⟨g, hl, hlt, _⟩ := h
  cases g with
  | nil => exact List.eq_nil_of_length_eq_zero (by simpa using hl.symm)
  | cons t g => have := hlt t (by simp); omega

/-- At most twice as many trucks as the fewest. -/
theorem runs_twice (h : Runs cap ws g) (hw : ∀ x ∈ ws, 1 ≤ x ∧ x ≤ cap) {b : Nat} (hb : FitsN b cap ws) : count g ≤ 2 * b := by
  have hc : ∀ x ∈ ws, 0 ≤ x := fun x hx => by have := hw x hx; omega
  rcases Nat.eq_zero_or_pos b with h0 | h0
  · subst h0
    have := fits_zero hb
    subst this
    have hg : g = [] := List.eq_nil_of_length_eq_zero (by simpa using h.len)
    subst hg
    simp [count]
  · apply Nat.le_of_not_lt
    intro hgt
    have key : ∀ m, 2 * m ≤ count g → m * (cap + 1) ≤ sumTo (sumOf g ws) (2 * m) := by
      intro m
      induction m with
      | zero => intro _; simp [sumTo]
      | succ m ih =>
        intro hm
        have h1 := ih (by omega)
        have h2 := runs_two h hc (i := 2 * m) (j := 2 * m + 1) (by omega) (runs_used h (fun x hx => (hw x hx).2) (by omega))
        have e : 2 * (m + 1) = 2 * m + 1 + 1 := by omega
        rw [e]
        simp only [sumTo]
        rw [Int.natCast_add, Int.add_mul]
        simp only [Int.cast_ofNat_Int, Int.one_mul]
        omega
    have h1 := key b (by omega)
    have h2 := sum_ge h.len hc (2 * b)
    have h3 := fitsN_sum hb
    rw [Int.mul_add] at h1
    omega
end

theorem sumOf_le_map {g : List Nat} {φ ψ : Int → Int} : ∀ {ws : List Int} {k : Nat}, (∀ x ∈ ws, φ x ≤ ψ x) → sumOf g (ws.map φ) k ≤ sumOf g (ws.map ψ) k := by
  intro ws k h
  rw [sumOf_items, sumOf_items]
  have hm := items_mem g ws k
  generalize itemsOf g ws k = l at *
  induction l with
  | nil => simp
  | cons x l ih =>
    simp only [List.map_cons, List.sum_cons]
    have h1 := h x (hm x (by simp))
    have h2 := ih (fun y hy => hm y (by simp [hy]))
    omega

section
variable {cap : Int} {ws : List Int} {g : List Nat}

/-- Sorted, the greatest first: a weight behind the fewest trucks is at most a third of the capacity. -/
theorem runs_third (h : Runs cap ws g) (hw : ∀ x ∈ ws, 1 ≤ x ∧ x ≤ cap) (hs : ws.Pairwise (fun x y => y ≤ x)) {b : Nat} (hb : FitsN b cap ws) {j r : Nat} {z : Int} (hj : g[j]? = some r) (hz : ws[j]? = some z) (hr : b ≤ r) : 3 * z ≤ cap := by
  apply Int.not_lt.1
  intro h3
  have hc : ∀ x ∈ ws, 0 ≤ x := fun x hx => by have := hw x hx; omega
  obtain ⟨hjl, hje⟩ := List.getElem?_eq_some_iff.1 hz
  have hz0 := (hw z (List.mem_of_getElem? hz)).1
  have hP : ∀ x ∈ ws.take (j + 1), z ≤ x := by
    intro x hx
    obtain ⟨i, hi⟩ := List.getElem?_of_mem hx
    rw [List.getElem?_take] at hi
    split at hi
    · rename_i hij
      obtain ⟨hil, hie⟩ := List.getElem?_eq_some_iff.1 hi
      rcases Nat.lt_or_ge i j with h1 | h1
      · have := List.pairwise_iff_getElem.1 hs i j hil hjl h1
        omega
      · have : i = j := by omega
        subst this; omega
    · cases hi
  -- the best loading
  obtain ⟨g', hl', hlt', hk'⟩ := fitsN_prefix hc hb (j + 1)
  have hwt : (((ws.take (j + 1)).map (fun u => if u + z > cap then (2 : Int) else 1)).sum : Int) ≤ b * 2 := by
    rw [← sum_all (g := g') (n := b) (by simpa using hl') hlt', ← sumTo_const]
    refine sumTo_le fun k hkb => ?_
    have h2 := hk' k hkb
    rw [sumOf_items'] at h2
    rw [sumOf_items]
    have hm : ∀ x ∈ itemsOf g' (ws.take (j + 1)) k, z ≤ x := fun x hx => hP x (items_mem _ _ _ x hx)
    generalize itemsOf g' (ws.take (j + 1)) k = l at *
    match l, hm, h2 with
    | [], _, _ => simp
    | [x], _, _ => simp; split <;> omega
    | [x, y], hm, h2 =>
      have := hm x (by simp)
      have := hm y (by simp)
      simp at h2 ⊢
      rw [if_neg (by omega), if_neg (by omega)]; omega
    | x :: y :: u :: l, hm, h2 =>
      have := hm x (by simp)
      have := hm y (by simp)
      have := hm u (by simp)
      have h0 : 0 ≤ l.sum := by
        have h1 : ∀ x ∈ l, 0 ≤ x := fun x hx => by have := hm x (by simp [hx]); omega
        clear hm h2
        induction l with
        | nil => simp
        | cons x l ih => simp only [List.sum_cons]; have := h1 x (by simp); have := ih (fun y hy => h1 y (by simp [hy])); omega
      simp at h2
      omega
  -- first fit
  have hff : (b * 2 : Int) ≤ ((ws.take j).map (fun u => if u + z > cap then (2 : Int) else 1)).sum := by
    refine Int.le_trans ?_ (sum_ge (g := g.take j) (by simp [h.len]) (by
      intro x hx
      obtain ⟨u, _, rfl⟩ := List.mem_map.1 hx
      split <;> omega) b)
    rw [← sumTo_const]
    refine sumTo_le fun k hkb => ?_
    have h2 := h.full j r z hz hj k (by omega)
    rw [sumOf_items'] at h2
    rw [sumOf_items]
    have hzc := (hw z (List.mem_of_getElem? hz)).2
    generalize itemsOf (g.take j) (ws.take j) k = l at *
    match l, h2 with
    | [], h2 => simp at h2; omega
    | [x], h2 => simp at h2 ⊢; rw [if_pos (by omega)]; omega
    | x :: y :: l, h2 =>
      have h0 : 0 ≤ (l.map (fun u => if u + z > cap then (2 : Int) else 1)).sum := by
        clear h2
        induction l with
        | nil => simp
        | cons x l ih => simp only [List.map_cons, List.sum_cons]; split <;> omega
      simp only [List.map_cons, List.sum_cons]
      split <;> split <;> omega
  rw [take_snoc hz, List.map_append, List.sum_append] at hwt
  simp only [List.map_cons, List.map_nil, List.sum_cons, List.sum_nil] at hwt
  split at hwt <;> omega

/-- Weights in the trucks from b on: the least one, if there is any. -/
theorem ext_least (b : Nat) : ∀ (g : List Nat) (ws : List Int), g.length = ws.length → (∃ t ∈ g, b ≤ t) → ∃ (j r : Nat) (y : Int), g[j]? = some r ∧ ws[j]? = some y ∧ b ≤ r ∧ extOf b g (ws.map fun _ => 1) * y ≤ extOf b g ws ∧
    ∀ (i s : Nat) (x : Int), g[i]? = some s → ws[i]? = some x → b ≤ s → y ≤ x
  | [], ws, _, h => by obtain ⟨t, ht, _⟩ := h; simp at ht
  | t :: g, [], h, _ => by simp at h
  | t :: g, x :: ws, hl, h => by
    have hl' : g.length = ws.length := by simpa using hl
    have hext : 0 ≤ extOf b g (ws.map fun _ => 1) := ext_nonneg _ _ (fun x hx => by obtain ⟨_, _, rfl⟩ := List.mem_map.1 hx; omega)
    by_cases hex : ∃ s ∈ g, b ≤ s
    · obtain ⟨j, r, y, hj, hy, hr, hs, hall⟩ := ext_least b g ws hl' hex
      by_cases htb : b ≤ t
      · by_cases hxy : x < y
        · refine ⟨0, t, x, rfl, rfl, htb, ?_, ?_⟩
          · simp only [List.map_cons, extOf]
            rw [if_pos htb, if_pos htb, Int.add_mul, Int.one_mul]
            have : extOf b g (ws.map fun _ => 1) * x ≤ extOf b g (ws.map fun _ => 1) * y := Int.mul_le_mul_of_nonneg_left (by omega) hext
            omega
          · intro i s z hi hz hs2
            cases i with
            | zero => simp at hz; omega
            | succ i => have := hall i s z (by simpa using hi) (by simpa using hz) hs2; omega
        · refine ⟨j + 1, r, y, by simpa using hj, by simpa using hy, hr, ?_, ?_⟩
          · simp only [List.map_cons, extOf]
            rw [if_pos htb, if_pos htb, Int.add_mul, Int.one_mul]
            omega
          · intro i s z hi hz hs2
            cases i with
            | zero => simp at hz; omega
            | succ i => exact hall i s z (by simpa using hi) (by simpa using hz) hs2
      · refine ⟨j + 1, r, y, by simpa using hj, by simpa using hy, hr, ?_, ?_⟩
        · simp only [List.map_cons, extOf]
          rw [if_neg htb, if_neg htb]
          simpa using hs
        · intro i s z hi hz hs2
          cases i with
          | zero => simp at hi; omega
          | succ i => exact hall i s z (by simpa using hi) (by simpa using hz) hs2
    · have htb : b ≤ t := by
        obtain ⟨s, hs, hbs⟩ := h
        rcases List.mem_cons.1 hs with rfl | hs
        · exact hbs
        · exact absurd ⟨s, hs, hbs⟩ hex
      have h0 : ∀ s ∈ g, s < b := fun s hs => by
        apply Nat.lt_of_not_le; intro hh; exact hex ⟨s, hs, hh⟩
      refine ⟨0, t, x, rfl, rfl, htb, ?_, ?_⟩
      · simp only [List.map_cons, extOf]
        rw [if_pos htb, if_pos htb, ext_zero g _ h0, ext_zero g _ h0]
        omega
      · intro i s z hi hz hs2
        cases i with
        | zero => simp at hz; omega
        | succ i =>
          have := h0 s (List.mem_of_getElem? (by simpa using hi))
          omega

/-- How many weights there are in the trucks from b on: fewer than b. -/
theorem ext_few (h : Runs cap ws g) (hw : ∀ x ∈ ws, 1 ≤ x ∧ x ≤ cap) (hc : 0 ≤ cap) {b : Nat} (hb : FitsN b cap ws) (h1 : 1 ≤ b) : extOf b g (ws.map fun _ => 1) < b := by
  have hc0 : ∀ x ∈ ws, 0 ≤ x := fun x hx => by have := hw x hx; omega
  by_cases hex : ∃ t ∈ g, b ≤ t
  · obtain ⟨j, r, y, hj, hy, hr, hs, _⟩ := ext_least b g ws h.len hex
    apply Int.lt_of_not_ge
    intro hge
    have hyb := hw y (List.mem_of_getElem? hy)
    have e1 : b * (cap + 1 - y) ≤ sumTo (sumOf g ws) b := by
      rw [← sumTo_const]
      refine sumTo_le fun k hk => ?_
      have h2 := h.full j r y hy hj k (by omega)
      have h3 := sumOf_take g ws j k hc0
      omega
    have e2 := sumTo_ext b g ws h.len
    have e3 := fitsN_sum hb
    have e4 : (b : Int) * y ≤ extOf b g (ws.map fun _ => 1) * y := Int.mul_le_mul_of_nonneg_right hge (by omega)
    rw [Int.mul_sub, Int.mul_add] at e1
    omega
  · rw [ext_zero g _ (fun t ht => by apply Nat.lt_of_not_le; intro hh; exact hex ⟨t, ht, hh⟩)]
    omega
theorem sum_ones (l : List Int) : (l.map fun _ => (1 : Int)).sum = l.length := by
  induction l with
  | nil => rfl
  | cons x l ih => simp only [List.map_cons, List.sum_cons, ih, List.length_cons]; omega
theorem ext_pos {b t : Nat} (ht : t ∈ g) (hb : b ≤ t) (hl : g.length = ws.length) : 1 ≤ extOf b g (ws.map fun _ => 1) := by
  induction g generalizing ws with
  | nil => simp at ht
  | cons s g ih =>
    cases ws with
    | nil => simp at hl
    | cons x ws =>
      have hn : 0 ≤ extOf b g (ws.map fun _ => 1) := ext_nonneg _ _ (fun x hx => by obtain ⟨_, _, rfl⟩ := List.mem_map.1 hx; omega)
      simp only [List.map_cons, extOf]
      rcases List.mem_cons.1 ht with rfl | ht
      · rw [if_pos hb]; omega
      · have := ih ht (by simpa using hl)
        split <;> omega

/-- Eight weights at most, sorted: eleven ninths of the fewest trucks, and two thirds of a truck. -/
theorem runs_eleven (h : Runs cap ws g) (hw : ∀ x ∈ ws, 1 ≤ x ∧ x ≤ cap) (hc : 1 ≤ cap) (hs : ws.Pairwise (fun x y => y ≤ x)) (h8 : ws.length ≤ 8) {b : Nat} (hb : FitsN b cap ws) : 9 * count g ≤ 11 * b + 6 := by
  have hc0 : ∀ x ∈ ws, 0 ≤ x := fun x hx => by have := hw x hx; omega
  have hle : ∀ x ∈ ws, x ≤ cap := fun x hx => (hw x hx).2
  rcases Nat.eq_zero_or_pos b with h0 | h0
  · subst h0
    have := fits_zero hb
    subst this
    have hg : g = [] := List.eq_nil_of_length_eq_zero (by simpa using h.len)
    subst hg
    simp [count]
  · have hfew := ext_few h hw (by omega) hb h0
    rcases Nat.lt_or_ge b (count g) with hbg | hbg
    · have h1 := ext_pos (b := b) (runs_used h hle hbg) (Nat.le_refl _) h.len
      rcases Nat.lt_or_ge (b + 1) (count g) with hb2 | hb2
      · exfalso
        obtain ⟨j, z, hj, hz⟩ := at_of h.len (runs_used h hle hb2)
        have hz3 := runs_third h hw hs hb hj hz (by omega)
        have hfull := h.full j (b + 1) z hz hj b (by omega)
        -- the weights of truck b
        have hcnt : 3 * sumOf (g.take j) (ws.take j) b ≤ cap * sumOf (g.take j) ((ws.take j).map fun _ => 1) b := by
          have key : ∀ (g' : List Nat) (ws' : List Int), (∀ (i : Nat) (x : Int), g'[i]? = some b → ws'[i]? = some x → 3 * x ≤ cap) → 3 * sumOf g' ws' b ≤ cap * sumOf g' (ws'.map fun _ => 1) b := by
            intro g'
            induction g' with
            | nil => intro ws' _; rw [sumOf_nil, sumOf_nil]; simp
            | cons t g' ih =>
              intro ws' hh
              cases ws' with
              | nil => simp [sumOf_nil']
              | cons x ws' =>
                have h2 := ih ws' (fun i y hi hy => hh (i + 1) y (by simpa using hi) (by simpa using hy))
                simp only [List.map_cons, sumOf, Int.mul_add]
                by_cases ht : t = b
                · subst ht
                  have := hh 0 x rfl rfl
                  rw [if_pos rfl, if_pos rfl]; omega
                · rw [if_neg ht, if_neg ht]; omega
          refine key _ _ fun i x hi hx => ?_
          rw [List.getElem?_take] at hi hx
          split at hi
          · rename_i hij
            rw [if_pos hij] at hx
            exact runs_third h hw hs hb hi hx (Nat.le_refl _)
          · cases hi
        have hones : ∀ x ∈ ws.map (fun _ => (1 : Int)), 0 ≤ x := fun x hx => by obtain ⟨_, _, rfl⟩ := List.mem_map.1 hx; omega
        have hc1 : sumOf (g.take j) ((ws.take j).map fun _ => 1) b ≤ sumOf g (ws.map fun _ => 1) b := by
          rw [List.map_take]
          exact sumOf_take g _ j b hones
        have h3 : 3 ≤ sumOf (g.take j) ((ws.take j).map fun _ => 1) b := by
          apply Int.not_lt.1
          intro hlt
          have : cap * sumOf (g.take j) ((ws.take j).map fun _ => 1) b ≤ cap * 2 := Int.mul_le_mul_of_nonneg_left (by omega) (by omega)
          omega
        have e1 := sumTo_ext b g (ws.map fun _ => (1 : Int)) (by simpa using h.len)
        have e2 := sumTo_ext (b + 1) g (ws.map fun _ => (1 : Int)) (by simpa using h.len)
        have e3 := ext_pos (b := b + 1) (runs_used h hle hb2) (Nat.le_refl _) h.len
        rw [sum_ones] at e1 e2
        simp only [sumTo] at e2
        -- each truck before b has a weight
        have e4 : (b : Int) * 1 ≤ sumTo (sumOf g (ws.map fun _ => (1 : Int))) b := by
          rw [← sumTo_const]
          refine sumTo_le fun k hk => ?_
          obtain ⟨i, x, hi, hx⟩ := at_of h.len (runs_used h hle (i := k) (by omega))
          have := sumOf_with g (ws.map fun _ => (1 : Int)) i k 1 hones hi (by simp [hx])
          have := sumOf_nn (g.take i) ((ws.map fun _ => (1 : Int)).take i) k (fun y hy => hones y (List.mem_of_mem_take hy))
          omega
        omega
      · omega
    · omega
end

end Go.Proofs.Ytiochiokcefbkaa
