/- Plain lists: can weights be given to trucks with some loads? The search that the program makes. No program in sight. -/
import Derived.Test.YtiochiokcefbkaaTkMath
namespace Go.Proofs.Ytiochiokcefbkaa
open Go.RowKit
set_option linter.unusedVariables false

/-- The trucks from k on, one after the other, for a weight x; rec: what is asked of the loads behind it. -/
def canFrom (rec : List Int → Bool) (cap x : Int) (ld : List Int) : Nat → Nat → Bool
  | 0, _ => false
  | f + 1, k =>
    if ld.getD k 0 + x ≤ cap ∧ rec (ld.set k (ld.getD k 0 + x)) = true then true
    else if ld.getD k 0 = 0 then false else canFrom rec cap x ld f (k + 1)
def can (cap : Int) : List Int → List Int → Bool
  | [], _ => true
  | x :: ws, ld => canFrom (can cap ws) cap x ld ld.length 0

theorem can_nil (cap : Int) (ld : List Int) : can cap [] ld = true := rfl
theorem can_start (cap x : Int) (ws ld : List Int) : can cap (x :: ws) ld = canFrom (can cap ws) cap x ld (ld.length - 0) 0 := rfl
theorem canFrom_end (rec : List Int → Bool) (cap x : Int) (ld : List Int) (k : Nat) (h : ld.length ≤ k) : canFrom rec cap x ld (ld.length - k) k = false := by
  rw [Nat.sub_eq_zero_of_le h]; rfl
theorem canFrom_step (rec : List Int → Bool) (cap x : Int) (ld : List Int) (k : Nat) {l : Int} (hl : ld[k]? = some l) :
    canFrom rec cap x ld (ld.length - k) k = if l + x ≤ cap ∧ rec (ld.set k (l + x)) = true then true else if l = 0 then false else canFrom rec cap x ld (ld.length - (k + 1)) (k + 1) := by
  have hk : k < ld.length := (List.getElem?_eq_some_iff.1 hl).1
  have : ld.length - k = (ld.length - (k + 1)) + 1 := by omega
  rw [this, canFrom]
  simp [List.getD, hl]
theorem canFrom_yes {rec : List Int → Bool} {cap x : Int} {ld : List Int} {k : Nat} {l : Int} (hl : ld[k]? = some l) (h1 : l + x ≤ cap) (h2 : rec (ld.set k (l + x)) = true) : canFrom rec cap x ld (ld.length - k) k = true := by
  rw [canFrom_step rec cap x ld k hl, if_pos ⟨h1, h2⟩]
theorem canFrom_zero {rec : List Int → Bool} {cap x : Int} {ld : List Int} {k : Nat} {l : Int} (hl : ld[k]? = some l) (h : ¬ (l + x ≤ cap ∧ rec (ld.set k (l + x)) = true)) (h0 : l = 0) : canFrom rec cap x ld (ld.length - k) k = false := by
  rw [canFrom_step rec cap x ld k hl, if_neg h, if_pos h0]
theorem canFrom_next {rec : List Int → Bool} {cap x : Int} {ld : List Int} {k : Nat} {l : Int} (hl : ld[k]? = some l) (h : ¬ (l + x ≤ cap ∧ rec (ld.set k (l + x)) = true)) (h0 : l ≠ 0) : canFrom rec cap x ld (ld.length - k) k = canFrom rec cap x ld (ld.length - (k + 1)) (k + 1) := by
  rw [canFrom_step rec cap x ld k hl, if_neg h, if_neg h0]
theorem set_back {ld : List Int} {k : Nat} {l y : Int} (hl : ld[k]? = some l) : (ld.set k y).set k l = ld := by
  rw [List.set_set]
  apply List.ext_getElem?
  intro i
  by_cases hi : i = k
  · subst hi; rw [List.getElem?_set_self (List.getElem?_eq_some_iff.1 hl).1, hl]
  · rw [List.getElem?_set_ne (by omega)]
theorem set_bd {ld : List Int} {k : Nat} {y cap : Int} (h : ∀ z ∈ ld, 0 ≤ z ∧ z ≤ cap) (hy : 0 ≤ y ∧ y ≤ cap) : ∀ z ∈ ld.set k y, 0 ≤ z ∧ z ≤ cap := by
  intro z hz
  rcases List.mem_or_eq_of_mem_set hz with hz | rfl
  · exact h z hz
  · exact hy

/-- What a loading gives to truck k. -/
def sumOf : List Nat → List Int → Nat → Int
  | t :: g, x :: ws, k => (if t = k then x else 0) + sumOf g ws k
  | _, _, _ => 0
/-- Some loading of n trucks with the loads f has room for weights. -/
def Fits (n : Nat) (cap : Int) (ws : List Int) (f : Nat → Int) : Prop := ∃ g : List Nat, g.length = ws.length ∧ (∀ t ∈ g, t < n) ∧ ∀ k, k < n → f k + sumOf g ws k ≤ cap

theorem sumOf_nonneg : ∀ (g : List Nat) (ws : List Int) (k : Nat), (∀ x ∈ ws, 1 ≤ x) → 0 ≤ sumOf g ws k
  | [], _, _, _ => by simp [sumOf]
  | _ :: _, [], _, _ => by simp [sumOf]
  | t :: g, x :: ws, k, h => by
    have h1 := sumOf_nonneg g ws k (fun y hy => h y (by simp [hy]))
    have h2 := h x (by simp)
    simp only [sumOf]
    split <;> omega
theorem fits_nil (n : Nat) (cap : Int) (f : Nat → Int) : Fits n cap [] f ↔ ∀ k, k < n → f k ≤ cap := by
  constructor
  · rintro ⟨g, hg, _, h⟩ k hk
    have : g = [] := List.eq_nil_of_length_eq_zero (by simpa using hg)
    subst this
    simpa [sumOf] using h k hk
  · exact fun h => ⟨[], rfl, by simp, fun k hk => by simpa [sumOf] using h k hk⟩
theorem fits_cons (n : Nat) (cap x : Int) (ws : List Int) (f : Nat → Int) : Fits n cap (x :: ws) f ↔ ∃ t, t < n ∧ Fits n cap ws (fun k => f k + if t = k then x else 0) := by
  constructor
  · rintro ⟨g, hg, hlt, h⟩
    cases g with
    | nil => simp at hg
    | cons t g =>
      refine ⟨t, hlt t (by simp), g, by simpa using hg, fun s hs => hlt s (by simp [hs]), fun k hk => ?_⟩
      have := h k hk
      simp only [sumOf] at this
      dsimp only
      omega
  · rintro ⟨t, ht, g, hg, hlt, h⟩
    refine ⟨t :: g, by simp [hg], fun s hs => ?_, fun k hk => ?_⟩
    · rcases List.mem_cons.1 hs with rfl | hs
      · exact ht
      · exact hlt s hs
    · have := h k hk
      simp only [sumOf]
      dsimp only at this
      omega
theorem fits_congr {n : Nat} {cap : Int} {ws : List Int} {f f' : Nat → Int} (h : ∀ k, k < n → f k = f' k) : Fits n cap ws f → Fits n cap ws f' := by
  rintro ⟨g, hg, hlt, hk⟩
  exact ⟨g, hg, hlt, fun k hkn => by rw [← h k hkn]; exact hk k hkn⟩
theorem sumOf_map (σ : Nat → Nat) (hσ : ∀ k, σ (σ k) = k) : ∀ (g : List Nat) (ws : List Int) (k : Nat), sumOf (g.map σ) ws k = sumOf g ws (σ k)
  | [], _, _ => by simp [sumOf]
  | _ :: _, [], _ => by simp [sumOf]
  | t :: g, x :: ws, k => by
    simp only [List.map_cons, sumOf, sumOf_map σ hσ g ws k]
    have : (σ t = k) ↔ (t = σ k) := ⟨fun h => by rw [← h, hσ], fun h => by rw [h, hσ]⟩
    simp only [this]
theorem fits_swap {n : Nat} {cap : Int} {ws : List Int} {f : Nat → Int} (σ : Nat → Nat) (hσ : ∀ k, σ (σ k) = k) (hn : ∀ k, k < n → σ k < n) (h : Fits n cap ws f) : Fits n cap ws (fun k => f (σ k)) := by
  obtain ⟨g, hg, hlt, hk⟩ := h
  refine ⟨g.map σ, by simp [hg], fun t ht => ?_, fun k hkn => ?_⟩
  · obtain ⟨s, hs, rfl⟩ := List.mem_map.1 ht
    exact hn s (hlt s hs)
  · rw [sumOf_map σ hσ]
    exact hk (σ k) (hn k hkn)

theorem canFrom_iff (rec : List Int → Bool) (cap x : Int) (ld : List Int) : ∀ f k : Nat, f + k = ld.length →
    (canFrom rec cap x ld f k = true ↔ ∃ t, k ≤ t ∧ t < ld.length ∧ (∀ s, k ≤ s → s < t → ld.getD s 0 ≠ 0) ∧ ld.getD t 0 + x ≤ cap ∧ rec (ld.set t (ld.getD t 0 + x)) = true) := by
  intro f
  induction f with
  | zero =>
    intro k hk
    simp only [canFrom, Bool.false_eq_true, false_iff]
    rintro ⟨t, h1, h2, _⟩
    omega
  | succ f ih =>
    intro k hk
    have ihk := ih (k + 1) (by omega)
    rw [canFrom]
    by_cases hc : ld.getD k 0 + x ≤ cap ∧ rec (ld.set k (ld.getD k 0 + x)) = true
    · rw [if_pos hc]
      simp only [true_iff]
      exact ⟨k, Nat.le_refl _, by omega, fun s h1 h2 => by omega, hc.1, hc.2⟩
    · rw [if_neg hc]
      by_cases h0 : ld.getD k 0 = 0
      · rw [if_pos h0]
        simp only [Bool.false_eq_true, false_iff]
        rintro ⟨t, h1, h2, h3, h4, h5⟩
        rcases Nat.eq_or_lt_of_le h1 with rfl | hlt
        · exact hc ⟨h4, h5⟩
        · exact h3 k (Nat.le_refl _) hlt h0
      · rw [if_neg h0, ihk]
        constructor
        · rintro ⟨t, h1, h2, h3, h4⟩
          refine ⟨t, by omega, h2, fun s hs hst => ?_, h4⟩
          rcases Nat.eq_or_lt_of_le hs with rfl | hlt
          · exact h0
          · exact h3 s hlt hst
        · rintro ⟨t, h1, h2, h3, h4, h5⟩
          rcases Nat.eq_or_lt_of_le h1 with rfl | hlt
          · exact absurd ⟨h4, h5⟩ hc
          · exact ⟨t, hlt, h2, fun s hs hst => h3 s (by omega) hst, h4, h5⟩

/-- The trucks without load stand last. -/
def Packed (ld : List Int) : Prop := ∀ i j : Nat, i < j → j < ld.length → ld.getD j 0 ≠ 0 → ld.getD i 0 ≠ 0

theorem getD_set' (ld : List Int) (t k : Nat) (y : Int) (ht : t < ld.length) : (ld.set t y).getD k 0 = if t = k then y else ld.getD k 0 := by
  rw [List.getD_eq_getElem?_getD, List.getD_eq_getElem?_getD]
  by_cases h : t = k
  · subst h; rw [List.getElem?_set_self ht, if_pos rfl]; rfl
  · rw [List.getElem?_set_ne h, if_neg h]
theorem mem_getD {ld : List Int} {k : Nat} (hk : k < ld.length) : ld.getD k 0 ∈ ld := by
  rw [List.getD_eq_getElem?_getD, List.getElem?_eq_getElem hk]; exact List.getElem_mem _

/-- The search finds a loading exactly if there is one. -/
theorem can_iff (cap : Int) : ∀ (ws ld : List Int), (∀ x ∈ ws, 1 ≤ x) → (∀ y ∈ ld, 0 ≤ y ∧ y ≤ cap) → Packed ld → (can cap ws ld = true ↔ Fits ld.length cap ws (fun k => ld.getD k 0)) := by
  intro ws
  induction ws with
  | nil =>
    intro ld _ hld _
    rw [can_nil, fits_nil]
    simp only [true_iff]
    exact fun k hk => (hld _ (mem_getD hk)).2
  | cons x ws ih =>
    intro ld hw hld hp
    have hx := hw x (by simp)
    have hws : ∀ y ∈ ws, 1 ≤ y := fun y hy => hw y (by simp [hy])
    have step : ∀ t, t < ld.length → (∀ s, s < t → ld.getD s 0 ≠ 0) → ld.getD t 0 + x ≤ cap → (can cap ws (ld.set t (ld.getD t 0 + x)) = true ↔ Fits ld.length cap ws (fun k => ld.getD k 0 + if t = k then x else 0)) := by
      intro t ht hs hc
      have h0 := hld _ (mem_getD ht)
      have h1 := ih (ld.set t (ld.getD t 0 + x)) hws (set_bd hld (by omega)) (by
        intro i j hij hj hne
        rw [List.length_set] at hj
        rw [getD_set' _ _ _ _ ht] at hne ⊢
        by_cases hti : t = i
        · rw [if_pos hti]; omega
        · rw [if_neg hti]
          by_cases htj : t = j
          · exact hs i (by omega)
          · rw [if_neg htj] at hne
            exact hp i j hij hj hne)
      rw [h1, List.length_set]
      constructor <;> refine fits_congr fun k hk => ?_
      · rw [getD_set' _ _ _ _ ht]; by_cases h : t = k
        · subst h; rw [if_pos rfl, if_pos rfl]
        · rw [if_neg h, if_neg h]; omega
      · rw [getD_set' _ _ _ _ ht]; by_cases h : t = k
        · subst h; rw [if_pos rfl, if_pos rfl]
        · rw [if_neg h, if_neg h]; omega
    rw [can, canFrom_iff _ _ _ _ _ _ (by simp), fits_cons]
    constructor
    · rintro ⟨t, _, ht, hs, hc, hr⟩
      exact ⟨t, ht, (step t ht (fun s hst => hs s (Nat.zero_le _) hst) hc).1 hr⟩
    · rintro ⟨t, ht, hf⟩
      by_cases hall : ∀ s, s < t → ld.getD s 0 ≠ 0
      · have hc : ld.getD t 0 + x ≤ cap := by
          obtain ⟨g, _, _, hk⟩ := hf
          have h1 := hk t ht
          have h2 := sumOf_nonneg g ws t hws
          simp only [if_true] at h1
          omega
        exact ⟨t, Nat.zero_le _, ht, fun s _ hst => hall s hst, hc, (step t ht hall hc).2 hf⟩
      · have hex : ∃ z, z < t ∧ ld.getD z 0 = 0 ∧ ∀ s, s < z → ld.getD s 0 ≠ 0 := by
          have key : ∀ m, (∀ s, s < m → ld.getD s 0 ≠ 0) ∨ ∃ z, z < m ∧ ld.getD z 0 = 0 ∧ ∀ s, s < z → ld.getD s 0 ≠ 0 := by
            intro m
            induction m with
            | zero => exact .inl fun s h => by omega
            | succ m ihm =>
              rcases ihm with h | ⟨z, h1, h2, h3⟩
              · by_cases hz : ld.getD m 0 = 0
                · exact .inr ⟨m, by omega, hz, h⟩
                · refine .inl fun s hs => ?_
                  rcases Nat.lt_or_ge s m with h1 | h1
                  · exact h s h1
                  · have : s = m := by omega
                    subst this; exact hz
              · exact .inr ⟨z, by omega, h2, h3⟩
          rcases key t with h | h
          · exact absurd h hall
          · exact h
        obtain ⟨z, hzt, hz0, hzs⟩ := hex
        have ht0 : ld.getD t 0 = 0 := by
          apply Decidable.byContradiction
          intro hne
          exact hp z t hzt ht hne hz0
        have hsw := fits_swap (fun k => if k = z then t else if k = t then z else k) (by intro k; split <;> split <;> (try split) <;> omega) (by intro k hk; split <;> (try split) <;> omega) hf
        have hf' : Fits ld.length cap ws (fun k => ld.getD k 0 + if z = k then x else 0) := by
          refine fits_congr (fun k hk => ?_) hsw
          by_cases h1 : k = z
          · subst h1; rw [if_pos rfl, if_pos rfl, if_pos rfl, ht0, hz0]
          · rw [if_neg h1]
            by_cases h2 : k = t
            · subst h2; rw [if_pos rfl, if_neg (by omega), if_neg (by omega), hz0, ht0]
            · rw [if_neg h2, if_neg (by omega), if_neg (by omega)]
        have hc : ld.getD z 0 + x ≤ cap := by
          obtain ⟨g, _, _, hk⟩ := hf'
          have h1 := hk z (by omega)
          have h2 := sumOf_nonneg g ws z hws
          simp only [if_true] at h1
          omega
        exact ⟨z, Nat.zero_le _, by omega, fun s _ hst => hzs s hst, hc, (step z (by omega) hzs hc).2 hf'⟩

/-- Weights fit into n trucks. -/
def FitsN (n : Nat) (cap : Int) (ws : List Int) : Prop := Fits n cap ws (fun _ => 0)
theorem can_zero {cap : Int} {ws : List Int} (h : wv ws cap = true) (n : Nat) : can cap ws (List.replicate n 0) = true ↔ FitsN n cap ws := by
  obtain ⟨h1, _, h3, _⟩ := wv_parts h
  have := can_iff cap ws (List.replicate n 0) (fun x hx => (h1 x hx).1) (fun y hy => by have := List.eq_of_mem_replicate hy; omega) (by
    intro i j _ hj hne
    rw [List.getD_eq_getElem?_getD, List.getElem?_replicate] at hne
    split at hne <;> simp at hne)
  rw [this, List.length_replicate]
  constructor <;> refine fits_congr fun k hk => ?_ <;> simp [List.getD, hk]

/-- Each weight in a truck of its own. -/
theorem fitsN_own {cap : Int} {ws : List Int} (h : ∀ x ∈ ws, x ≤ cap) (hc : 0 ≤ cap) : FitsN ws.length cap ws := by
  have key : ∀ (l : List Int) (b k : Nat), (∀ x ∈ l, x ≤ cap) → sumOf (List.range' b l.length) l k ≤ cap ∧ (k < b → sumOf (List.range' b l.length) l k = 0) := by
    intro l
    induction l with
    | nil => intro b k _; simp [sumOf, hc]
    | cons x l ih =>
      intro b k hl
      have hx := hl x (by simp)
      obtain ⟨h1, h2⟩ := ih (b + 1) k (fun y hy => hl y (by simp [hy]))
      simp only [List.length_cons, List.range'_succ, sumOf]
      by_cases hbk : b = k
      · subst hbk
        have := h2 (by omega)
        rw [if_pos rfl]
        exact ⟨by omega, fun h => by omega⟩
      · rw [if_neg hbk]
        exact ⟨by omega, fun h => by have := h2 (by omega); omega⟩
  refine ⟨List.range' 0 ws.length, by simp, fun t ht => ?_, fun k _ => ?_⟩
  · simp [List.mem_range'] at ht; omega
  · have := (key ws 0 k h).1
    dsimp only; omega
theorem fitsN_mono {n m : Nat} {cap : Int} {ws : List Int} (hc : 0 ≤ cap) (hnm : n ≤ m) (h : FitsN n cap ws) : FitsN m cap ws := by
  obtain ⟨g, hg, hlt, hk⟩ := h
  refine ⟨g, hg, fun t ht => by have := hlt t ht; omega, fun k hkm => ?_⟩
  by_cases hkn : k < n
  · exact hk k hkn
  · have key : ∀ (g : List Nat) (ws : List Int), (∀ t ∈ g, t < n) → sumOf g ws k = 0 := by
      intro g
      induction g with
      | nil => intro ws _; cases ws <;> rfl
      | cons t g ih =>
        intro ws h
        cases ws with
        | nil => rfl
        | cons x ws =>
          have := h t (by simp)
          simp only [sumOf]
          rw [if_neg (by omega), ih ws (fun s hs => h s (by simp [hs]))]; rfl
    rw [key g ws hlt]; dsimp only; omega

/-- The least number of trucks; -1 if they are no weights. -/
def leastT (ws : List Int) (cap : Int) : Nat := (List.range 9).findIdx (fun n => can cap ws (List.replicate n 0))
def lt (ws : List Int) (cap : Int) : Int := if wv ws cap then (leastT ws cap : Int) else -1
theorem lt_no {ws : List Int} {cap : Int} (h : wv ws cap = false) : lt ws cap = -1 := by simp [lt, h]
theorem leastT_spec {ws : List Int} {cap : Int} (h : wv ws cap = true) : leastT ws cap ≤ ws.length ∧ can cap ws (List.replicate (leastT ws cap) 0) = true ∧ ∀ m, m < leastT ws cap → can cap ws (List.replicate m 0) = false := by
  obtain ⟨h1, h2, h3, _⟩ := wv_parts h
  have hown := (can_zero h ws.length).2 (fitsN_own (fun x hx => (h1 x hx).2) (by omega))
  have hle : leastT ws cap ≤ ws.length := by
    apply Nat.le_of_not_lt
    intro hlt
    have := List.not_of_lt_findIdx hlt
    simp [hown] at this
  have hlt9 : leastT ws cap < (List.range 9).length := by rw [List.length_range]; omega
  have hat := List.findIdx_getElem (p := fun n => can cap ws (List.replicate n 0)) (xs := List.range 9) (w := hlt9)
  have e : (List.range 9)[leastT ws cap]'hlt9 = leastT ws cap := List.getElem_range hlt9
  have hat2 : can cap ws (List.replicate ((List.range 9)[leastT ws cap]'hlt9) 0) = true := hat
  rw [e] at hat2
  refine ⟨hle, hat2, fun m hm => ?_⟩
  have := List.not_of_lt_findIdx hm
  simpa using this
theorem leastT_eq {ws : List Int} {cap : Int} (h : wv ws cap = true) {n : Nat} (h1 : can cap ws (List.replicate n 0) = true) (h2 : ∀ m, m < n → can cap ws (List.replicate m 0) = false) : leastT ws cap = n := by
  obtain ⟨_, h3, h4⟩ := leastT_spec h
  rcases Nat.lt_trichotomy (leastT ws cap) n with hlt | he | hgt
  · rw [h2 _ hlt] at h3; cases h3
  · exact he
  · rw [h4 _ hgt] at h1; cases h1
theorem lt_yes {ws : List Int} {cap : Int} (h : wv ws cap = true) {n : Nat} (h1 : can cap ws (List.replicate n 0) = true) (h2 : ∀ m, m < n → can cap ws (List.replicate m 0) = false) : lt ws cap = (n : Int) := by
  simp [lt, h, leastT_eq h h1 h2]

end Go.Proofs.Ytiochiokcefbkaa
