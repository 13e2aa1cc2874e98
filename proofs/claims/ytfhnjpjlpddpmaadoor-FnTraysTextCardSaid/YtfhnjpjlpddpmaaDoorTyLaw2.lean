
/- Plain laws on trays: labels of turned letters, where a letter is, repacked trays. No program in sight. -/
import Derived.Test.YtfhnjpjlpddpmaaDoorTyLaw
import Derived.Test.YtfhnjpjlpddpmaaDoorTy12
namespace Go.Proofs.YtfhnjpjlpddpmaaDoor
set_option linter.unusedVariables false

theorem bv_rev {b : List Ltr} (h : bv b = true) : bv b.reverse = true := by
  obtain ⟨h1, h2, h3⟩ := bv_parts h
  exact bv_mk (by simpa using h1) (fun x hx => h2 x (List.mem_reverse.1 hx)) (by rw [List.map_reverse]; unfold List.Nodup at *; rw [List.pairwise_reverse]; exact h3.imp fun h => fun e => h e.symm)
theorem label_rev {b : List Ltr} (h : bv b = true) {x y : Ltr} (hx : b[0]? = some x) (hy : b[b.length - 1]? = some y) : label b.reverse = y.2 ++ dash ++ x.2 := by
  have h0 : 0 < b.length := (List.getElem?_eq_some_iff.1 hx).1
  refine label_yes (bv_rev h) ?_ ?_
  · rw [List.getElem?_reverse h0]; exact hy
  · rw [List.length_reverse, List.getElem?_reverse (by omega)]
    rw [show b.length - 1 - (b.length - 1) = 0 by omega]; exact hx
theorem flat_nodup {xss : List (List Ltr)} (h : bv xss.flatten = true) {i j : Nat} {t u : List Ltr} (hi : xss[i]? = some t) (hj : xss[j]? = some u) {x y : Ltr} (hx : x ∈ t) (hy : y ∈ u) (he : x.1 = y.1) : i = j := by
  have hn := (bv_parts h).2.2
  have key : ∀ (l : List (List Ltr)), (l.flatten.map (·.1)).Nodup → ∀ (i j : Nat) (t u : List Ltr), l[i]? = some t → l[j]? = some u → ∀ x ∈ t, ∀ y ∈ u, x.1 = y.1 → i = j := by
    intro l
    induction l with
    | nil => intro _ i j t u h1; simp at h1
    | cons a l ih =>
      intro hn i j t u h1 h2 x hx y hy he
      rw [List.flatten_cons, List.map_append, List.nodup_append] at hn
      obtain ⟨_, n2, n3⟩ := hn
      cases i with
      | zero =>
        cases j with
        | zero => rfl
        | succ j =>
          simp at h1 h2
          subst h1
          exact absurd he (n3 _ (List.mem_map_of_mem hx) _ (List.mem_map_of_mem (List.mem_flatten.2 ⟨u, List.mem_of_getElem? h2, hy⟩)))
      | succ i =>
        cases j with
        | zero =>
          simp at h1 h2
          subst h2
          exact absurd he.symm (n3 _ (List.mem_map_of_mem hy) _ (List.mem_map_of_mem (List.mem_flatten.2 ⟨t, List.mem_of_getElem? h1, hx⟩)))
        | succ j =>
          simp at h1 h2
          rw [ih n2 i j t u h1 h2 x hx y hy he]
  exact key xss hn i j t u hi hj x hx y hy he
theorem tray_bv {xss : List (List Ltr)} (h : tv xss 20 = true) {t : List Ltr} (ht : t ∈ xss) : bv t = true := bv_sub (tv_parts h).2.2.2 (List.sublist_flatten_of_mem ht)
/-- A letter is in the tray that is told and in no other one. -/
theorem tray_iff {xss : List (List Ltr)} {id : Int} (h : tv xss 20 = true) {i : Nat} {t : List Ltr} (hi : xss[i]? = some t) : 0 ≤ findI t id ↔ (i : Int) = trayI xss id := by
  constructor
  · intro hf
    refine (trayI_at h hi hf fun j hj y hy => ?_).symm
    rcases Int.lt_or_le (findI y id) 0 with h1 | h1
    · exact h1
    · obtain ⟨a, ha, hae⟩ := (findI_mem (tray_bv h (List.mem_of_getElem? hi))).1 hf
      obtain ⟨c, hc, hce⟩ := (findI_mem (tray_bv h (List.mem_of_getElem? hy))).1 h1
      have := flat_nodup (tv_parts h).2.2.2 hi hy ha hc (by rw [hae, hce])
      omega
  · intro he
    rcases Int.lt_or_le (findI t id) 0 with h1 | h1
    · exfalso
      unfold trayI at he
      rw [if_pos h] at he
      split at he
      · rename_i k hk
        have : i = k := by omega
        subst this
        rw [List.findIdx?_eq_some_iff_getElem] at hk
        obtain ⟨hl, h2, _⟩ := hk
        rw [(List.getElem?_eq_some_iff.1 hi).2] at h2
        simp at h2
        omega
      · omega
    · exact h1
/-- One is told exactly if the letter is in any. -/
theorem tray_any {xss : List (List Ltr)} {id : Int} (h : tv xss 20 = true) : 0 ≤ trayI xss id ↔ 0 ≤ findI xss.flatten id := by
  rw [findI_mem (tv_parts h).2.2.2]
  constructor
  · intro he
    obtain ⟨i, hi⟩ : ∃ i : Nat, (i : Int) = trayI xss id := ⟨(trayI xss id).toNat, by omega⟩
    have hl : i < xss.length := by
      unfold trayI at hi
      rw [if_pos h] at hi
      split at hi
      · rename_i k hk
        have : i = k := by omega
        subst this
        rw [List.findIdx?_eq_some_iff_getElem] at hk
        exact hk.1
      · omega
    have ht := List.getElem?_eq_getElem hl
    obtain ⟨x, hx, hxe⟩ := (findI_mem (tray_bv h (List.mem_of_getElem? ht))).1 ((tray_iff h ht).2 hi)
    exact ⟨x, List.mem_flatten.2 ⟨_, List.mem_of_getElem? ht, hx⟩, hxe⟩
  · rintro ⟨x, hx, hxe⟩
    obtain ⟨t, ht, hxt⟩ := List.mem_flatten.1 hx
    obtain ⟨i, hi⟩ := List.getElem?_of_mem ht
    have := (tray_iff h hi).1 ((findI_mem (tray_bv h ht)).2 ⟨x, hxt, hxe⟩)
    omega
theorem least_ceil {n : Nat} {size : Int} (h1 : n ≤ 60) (h2 : 1 ≤ size ∧ size ≤ 20) : least n size = (ceil n size.toNat : Nat) := by
  rw [least_yes (inB_true.2 ⟨by omega, by omega⟩) (inB_true.2 h2)]
  obtain ⟨s, hs⟩ : ∃ s : Nat, size = (s : Int) := ⟨size.toNat, by omega⟩
  subst hs
  rw [Int.toNat_natCast, ceil, Int.natCast_ediv, Int.natCast_sub (by omega)]
  push_cast
  rfl
/-- Trays filled: what the law asks of them. -/
theorem fbp_full {xs : List Ltr} {size : Int} (h : fok xs size 0 = true) : (∀ (i : Nat) (t : List Ltr), (fbp xs size 0)[i]? = some t → i + 1 < (fbp xs size 0).length → (t.length : Int) = size) ∧ tv (fbp xs size 0) 20 = true ∧ tv (fbp xs size 0) size = true ∧ emp (fbp xs size 0) = xs ∧ (fbp xs size 0).flatten = xs ∧ ((fbp xs size 0).length : Int) = least xs.length size := by
  obtain ⟨hb, hs, hd⟩ := fok_parts h
  obtain ⟨s, hse⟩ : ∃ s : Nat, size = (s : Int) := ⟨size.toNat, by omega⟩
  subst hse
  have e : fbp xs (s : Int) 0 = fillT s 0 xs := by simp [fbp, h]
  have h1 : 1 ≤ s := by omega
  have hv := fill_tv (size := s) (d := 0) h1 (by omega) hb
  have hf := (fill_all (size := s) (d := 0) h1 xs).2
  rw [e]
  refine ⟨fun i t ht hl => by rw [fill0_full h1 xs i t ht hl], tv_20 hv, hv, ?_, hf, ?_⟩
  · rw [emp_yes (tv_20 hv), hf]
  · rw [least_ceil (bv_parts hb).1 hs, Int.toNat_natCast, fill0_count h1]
/-- Repacked trays. -/
theorem rpk_law {xss : List (List Ltr)} {size : Int} (h : rok xss size = true) : rok (rpk xss size) size = true ∧ rpk (rpk xss size) size = rpk xss size ∧ fok xss.flatten size 0 = true ∧ fbp xss.flatten size 0 = rpk xss size ∧ (rpk xss size).flatten = xss.flatten ∧ (tv xss size = true → (rpk xss size).length ≤ xss.length) := by
  have h' := h
  simp only [rok, Bool.and_eq_true] at h'
  obtain ⟨ht, hs⟩ := h'
  have hfok := rpk_fok ht hs
  obtain ⟨_, f2, f3, _, f5, _⟩ := fbp_full hfok
  have e := rpk_yes h
  rw [e]
  have hr : rok (fbp xss.flatten size 0) size = true := rok_mk f2 hs
  refine ⟨hr, by rw [rpk_yes hr, f5], hfok, rfl, f5, fun hv => ?_⟩
  obtain ⟨s, hse⟩ : ∃ s : Nat, size = (s : Int) := ⟨size.toNat, by have := inB_true.1 hs; omega⟩
  subst hse
  have h1 : 1 ≤ s := by have := inB_true.1 hs; omega
  have e2 : fbp xss.flatten (s : Int) 0 = fillT s 0 xss.flatten := by simp [fbp, hfok]
  rw [e2]
  exact fill_least h1 fun t ht => by have := (tv_parts hv).1 t ht; omega

end Go.Proofs.YtfhnjpjlpddpmaaDoor
