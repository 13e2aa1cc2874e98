/- Plain lists: the loading that the program makes, against the trucks of first fit. No program in sight. -/
import Derived.Test.YtiochiokcefbkaaTkRunMath
import Derived.Test.YtiochiokcefbkaaTk2
import Derived.Test.YtiochiokcefbkaaTk8
namespace Go.Proofs.Ytiochiokcefbkaa
open Go.RowKit
set_option linter.unusedVariables false

theorem fitStep_eq (w : List Int) (cap : Int) (st : List Int × List Int) (i : Nat) : fitStep w cap st i = (putIn cap st.1 (w.getD i 0), st.2.set i (room st.1 (w.getD i 0) cap : Int)) := rfl
theorem fold_keeps (w : List Int) (cap : Int) : ∀ (o : List Nat) (st : List Int × List Int) (i : Nat), i ∉ o → (o.foldl (fitStep w cap) st).2.getD i 0 = st.2.getD i 0
  | [], st, i, _ => rfl
  | j :: o, st, i, h => by
    rw [List.foldl_cons, fold_keeps w cap o _ i (fun hh => h (by simp [hh])), fitStep_eq]
    have : j ≠ i := fun e => h (by simp [e])
    simp [List.getD_eq_getElem?_getD, List.getElem?_set_ne this]
theorem fold_len (w : List Int) (cap : Int) : ∀ (o : List Nat) (st : List Int × List Int), (o.foldl (fitStep w cap) st).2.length = st.2.length
  | [], st => rfl
  | j :: o, st => by rw [List.foldl_cons, fold_len w cap o, fitStep_eq]; simp
theorem fold_run (w : List Int) (cap : Int) : ∀ (o : List Nat) (st : List Int × List Int), o.Nodup → (∀ i ∈ o, i < st.2.length) →
    o.map (fun i => (o.foldl (fitStep w cap) st).2.getD i 0) = (runFit cap st.1 (o.map fun i => w.getD i 0)).map (fun (t : Nat) => (t : Int))
  | [], st, _, _ => rfl
  | j :: o, st, hn, hl => by
    have hn' := List.nodup_cons.1 hn
    have hj := hl j (by simp)
    rw [List.map_cons, List.map_cons, runFit, List.map_cons, List.foldl_cons]
    have ih := fold_run w cap o (fitStep w cap st j) hn'.2 (fun i hi => by rw [fitStep_eq]; simpa using hl i (by simp [hi]))
    rw [ih, fold_keeps w cap o _ j hn'.1, fitStep_eq]
    congr 1
    rw [List.getD_eq_getElem?_getD, List.getElem?_set_self hj]; rfl

theorem map_perm_sum {α : Type} {a b : List α} (f : α → Int) (h : a.Perm b) : (a.map f).sum = (b.map f).sum := by
  induction h with
  | nil => rfl
  | cons x _ ih => simp [ih]
  | swap x y l => simp; omega
  | trans _ _ ih1 ih2 => rw [ih1, ih2]
theorem tk_nats : ∀ (g : List Nat) (ws : List Int) (t : Nat), tk (g.map fun (i : Nat) => (i : Int)) ws t = sumOf g ws t
  | [], ws, t => by rw [sumOf_nil]; rfl
  | _ :: _, [], t => by rw [sumOf_nil']; rfl
  | s :: g, x :: ws, t => by
    rw [List.map_cons, tk_cons, tk_nats g ws t, sumOf]
    by_cases h : s = t
    · subst h; rw [if_pos rfl, if_pos rfl]
    · rw [if_neg h, if_neg (by omega)]
theorem zip_range (a b : List Int) (n : Nat) (ha : a.length = n) (hb : b.length = n) : a.zip b = (List.range n).map fun i => (a.getD i 0, b.getD i 0) := by
  apply List.ext_getElem
  · simp [ha, hb]
  · intro i h1 h2
    simp only [List.length_map, List.length_range] at h2
    simp [List.getD_eq_getElem?_getD, ha, hb, h2]

/-- The loading that first fit makes in some order of the indices: its pairs of truck and weight. -/
theorem fit_pairs {w : List Int} {cap : Int} {o : List Nat} (hp : o.Perm (List.range w.length)) :
    ((fitAll w cap o).2.zip w).Perm (((runs cap (o.map fun i => w.getD i 0)).map fun (t : Nat) => (t : Int)).zip (o.map fun i => w.getD i 0)) := by
  have hlen : (fitAll w cap o).2.length = w.length := by rw [fitAll, fold_len]; simp
  have hol : o.length = w.length := by rw [hp.length_eq, List.length_range]
  have hnd : o.Nodup := hp.nodup_iff.2 List.nodup_range
  have hrun := fold_run w cap o (List.replicate w.length 0, List.replicate w.length 0) hnd (fun i hi => by
    have := List.mem_range.1 (hp.mem_iff.1 hi)
    simpa using this)
  have e : runs cap (o.map fun i => w.getD i 0) = runFit cap (List.replicate w.length 0) (o.map fun i => w.getD i 0) := by
    rw [runs, List.length_map, hol]
  rw [e, ← hrun, zip_range _ _ w.length hlen rfl]
  have e2 : ((o.map fun i => (o.foldl (fitStep w cap) (List.replicate w.length 0, List.replicate w.length 0)).2.getD i 0).zip (o.map fun i => w.getD i 0)) = o.map fun i => ((fitAll w cap o).2.getD i 0, w.getD i 0) := by
    rw [List.zip_map', fitAll]
  rw [e2]
  exact (hp.symm.map _)

structure FitFacts (w : List Int) (cap : Int) (given s : List Int) (g : List Nat) : Prop where
  lv : lv w cap given = true
  tc : tc given = (count g : Int)
  wv : wv s cap = true
  runs : Runs cap s g
  perm : w.Perm s

theorem fst_perm {a b c d : List Int} (h : (a.zip b).Perm (c.zip d)) (h1 : a.length = b.length) (h2 : c.length = d.length) : a.Perm c := by
  have := h.map Prod.fst
  rwa [List.map_fst_zip (by omega), List.map_fst_zip (by omega)] at this
theorem count_top {g : List Nat} {given : List Int} (h : ∀ t, t ∈ given ↔ t ∈ g.map fun (i : Nat) => (i : Int)) : top given = (count g : Int) := by
  have h0 : ∀ x ∈ given, 0 ≤ x := fun x hx => by
    obtain ⟨i, _, rfl⟩ := List.mem_map.1 ((h x).1 hx); omega
  have htop : 0 ≤ top given := by
    have : ∀ (l : List Int) (a : Int), a ≤ l.foldl (fun n x => if n < x + 1 then x + 1 else n) a := by
      intro l
      induction l with
      | nil => intro a; exact Int.le_refl _
      | cons x l ih => intro a; have := ih (if a < x + 1 then x + 1 else a); simp only [List.foldl_cons]; split at this <;> split <;> omega
    exact this given 0
  apply Int.le_antisymm
  · rcases top_mem given h0 with h1 | h1
    · omega
    · obtain ⟨i, hi, he⟩ := List.mem_map.1 ((h _).1 h1)
      have := count_lt g i hi
      omega
  · rcases count_mem g with h1 | h1
    · omega
    · have := top_gt given _ ((h _).2 (List.mem_map.2 ⟨_, h1, rfl⟩))
      omega

theorem fit_facts {w : List Int} {cap : Int} {o : List Nat} (hv : wv w cap = true) (hp : o.Perm (List.range w.length)) :
    FitFacts w cap (fitAll w cap o).2 (o.map fun i => w.getD i 0) (Go.Proofs.Ytiochiokcefbkaa.runs cap (o.map fun i => w.getD i 0)) := by
  obtain ⟨h1, h8, hc1, hc2⟩ := wv_parts hv
  have hpairs := fit_pairs (cap := cap) hp
  have hol : o.length = w.length := by rw [hp.length_eq, List.length_range]
  have hlen : (fitAll w cap o).2.length = w.length := by rw [fitAll, fold_len]; simp
  have hperm : w.Perm (o.map fun i => w.getD i 0) := by
    have h2 := (hp.symm.map (fun i => w.getD i 0))
    have e : (List.range w.length).map (fun i => w.getD i 0) = w := by
      apply List.ext_getElem
      · simp
      · intro i h1 h2; simp [List.getD_eq_getElem?_getD, List.getElem?_eq_getElem h2]
    rwa [e] at h2
  have hwv : wv (o.map fun i => w.getD i 0) cap = true := by rw [← wv_perm hperm]; exact hv
  have hle : ∀ x ∈ (o.map fun i => w.getD i 0), x ≤ cap := fun x hx => ((wv_parts hwv).1 x hx).2
  have hR := runs_all hle (by omega : 0 ≤ cap)
  have hsl : (o.map fun i => w.getD i 0).length = w.length := by simp [hol]
  have hgp := fst_perm hpairs hlen (by rw [List.length_map, hR.len])
  have hmem : ∀ t, t ∈ (fitAll w cap o).2 ↔ t ∈ (Go.Proofs.Ytiochiokcefbkaa.runs cap (o.map fun i => w.getD i 0)).map fun (i : Nat) => (i : Int) := fun t => hgp.mem_iff
  have hgv : gv (fitAll w cap o).2 = true := by
    simp only [gv, Bool.and_eq_true, List.all_eq_true, decide_eq_true_eq, inB_true]
    refine ⟨fun x hx => ?_, by omega⟩
    obtain ⟨i, hi, rfl⟩ := List.mem_map.1 ((hmem x).1 hx)
    have := hR.lt i hi
    omega
  have htop := count_top hmem
  have htk : ∀ t : Nat, tk (fitAll w cap o).2 w t = sumOf (Go.Proofs.Ytiochiokcefbkaa.runs cap (o.map fun i => w.getD i 0)) (o.map fun i => w.getD i 0) t := fun t => by
    rw [← tk_nats, tk, tk]
    exact map_perm_sum _ hpairs
  refine ⟨?_, by rw [tc_yes hgv, htop], hwv, hR, hperm⟩
  rw [lv_yes hv hgv hlen.symm, List.all_eq_true]
  intro x hx
  obtain ⟨t, ht⟩ := List.getElem?_of_mem hx
  have htl : t < (top (fitAll w cap o).2).toNat := by
    have := (List.getElem?_eq_some_iff.1 ht).1
    rwa [lds_length] at this
  have hmem0 : ∀ x ∈ (fitAll w cap o).2, 0 ≤ x := fun x hx => by
    obtain ⟨i, _, rfl⟩ := List.mem_map.1 ((hmem x).1 hx); omega
  rw [lds_at hmem0 htl, htk t] at ht
  have := hR.load t
  injection ht with ht
  simp; omega

/-- A valid loading needs at least the least number of trucks. -/
theorem lv_least {w gs : List Int} {cap : Int} (h : lv w cap gs = true) : (leastT w cap : Int) ≤ tc gs := by
  have hw : wv w cap = true := by
    cases hh : wv w cap
    · rw [lv_w hh] at h; cases h
    · rfl
  have hg : gv gs = true := by
    cases hh : gv gs
    · rw [lv_g hh] at h; cases h
    · rfl
  have hl : w.length = gs.length := by
    apply Decidable.byContradiction
    intro hh
    rw [lv_l hh] at h; cases h
  obtain ⟨n, hn8, htc, hnt, hmem⟩ := tc_nat hg
  rw [lv_yes hw hg hl, ← hnt, List.all_eq_true] at h
  rw [htc]
  have hf : FitsN n cap w := by
    refine ⟨gs.map Int.toNat, by simp [hl], fun t ht => ?_, fun k hk => ?_⟩
    · obtain ⟨x, hx, rfl⟩ := List.mem_map.1 ht
      have := hmem x hx; omega
    · have e : (gs.map Int.toNat).map (fun (i : Nat) => (i : Int)) = gs := by
        rw [List.map_map]
        have : ∀ x ∈ gs, ((fun (i : Nat) => (i : Int)) ∘ Int.toNat) x = x := fun x hx => by
          have := hmem x hx; simp; omega
        rw [List.map_congr_left this]; simp
      rw [← tk_nats, e]
      have h2 := lds_at (w := w) (fun x hx => (hmem x hx).1) hk
      have h3 := h _ (List.mem_of_getElem? h2)
      simp at h3
      dsimp only
      omega
  have := leastT_min hw hf
  omega

/-- What the law on first fit says of its numbers. -/
theorem ff_facts {w : List Int} {cap : Int} (hv : wv w cap = true) : FitFacts w cap (ff w cap) w (Go.Proofs.Ytiochiokcefbkaa.runs cap w) ∧ ff w cap = (Go.Proofs.Ytiochiokcefbkaa.runs cap w).map (fun (i : Nat) => (i : Int)) := by
  have h := fit_facts hv (List.Perm.refl (List.range w.length))
  have e : (List.range w.length).map (fun i => w.getD i 0) = w := by
    apply List.ext_getElem
    · simp
    · intro i h1 h2; simp [List.getD_eq_getElem?_getD, List.getElem?_eq_getElem h2]
  rw [e] at h
  rw [ff_yes hv]
  refine ⟨h, ?_⟩
  have hlen : (fitAll w cap (List.range w.length)).2.length = w.length := by rw [fitAll, fold_len]; simp
  have hrun := fold_run w cap (List.range w.length) (List.replicate w.length 0, List.replicate w.length 0) List.nodup_range (fun i hi => by simpa using hi)
  rw [e] at hrun
  rw [runs, ← hrun]
  apply List.ext_getElem
  · simp [hlen]
  · intro i h1 h2
    simp only [List.length_map, List.length_range] at h2
    simp [List.getD_eq_getElem?_getD, fitAll] at h1 ⊢
    rw [List.getElem?_eq_getElem h1]; rfl

/-- The weights in sorted order, the greatest first. -/
def sortedW (w : List Int) (k : Nat) : List Int := (sortedIx w k).map fun i => w.getD i 0
theorem sortedW_length (w : List Int) (k : Nat) : (sortedW w k).length = k := by simp [sortedW, sortedIx_length]
theorem downTo_ge {w : List Int} {l : List Nat} {x : Int} : ∀ k, ∀ i, downTo w l x k ≤ i → i < k → w.getD (l.getD i 0) 0 < x
  | 0, i, _, h => by omega
  | k + 1, i, h1, h2 => by
    rw [downTo] at h1
    split at h1
    · rename_i hlt
      rcases Nat.lt_or_ge i k with h3 | h3
      · exact downTo_ge k i h1 h3
      · have : i = k := by omega
        subst this; exact hlt
    · omega
theorem downTo_last {w : List Int} {l : List Nat} {x : Int} : ∀ k, 0 < downTo w l x k → x ≤ w.getD (l.getD (downTo w l x k - 1) 0) 0
  | 0, h => by simp [downTo] at h
  | k + 1, h => by
    rw [downTo] at h ⊢
    split
    · rename_i hlt
      rw [if_pos hlt] at h
      exact downTo_last k h
    · rename_i hlt
      rw [Nat.add_sub_cancel]; omega
theorem sortedW_pair (w : List Int) : ∀ k, (sortedW w k).Pairwise (fun x y => y ≤ x)
  | 0 => by simp [sortedW, sortedIx]
  | k + 1 => by
    have ih := sortedW_pair w k
    have hl := sortedIx_length w k
    unfold sortedW at ih ⊢
    rw [sortedIx, insDesc, insAt, List.map_append, List.map_cons]
    have hq := downTo_le w (sortedIx w k) (w.getD k 0) (sortedIx w k).length
    have hge := downTo_ge (w := w) (l := sortedIx w k) (x := w.getD k 0) (sortedIx w k).length
    have hla := downTo_last (w := w) (l := sortedIx w k) (x := w.getD k 0) (sortedIx w k).length
    generalize downTo w (sortedIx w k) (w.getD k 0) (sortedIx w k).length = q at *
    generalize sortedIx w k = s at *
    have hs : (s.map fun i => w.getD i 0) = ((s.take q).map fun i => w.getD i 0) ++ ((s.drop q).map fun i => w.getD i 0) := by rw [← List.map_append, List.take_append_drop]
    rw [hs, List.pairwise_append] at ih
    obtain ⟨p1, p2, p3⟩ := ih
    have hdrop : ∀ y ∈ (s.drop q).map fun i => w.getD i 0, y < w.getD k 0 := fun y hy => by
      obtain ⟨i, hi, rfl⟩ := List.mem_map.1 hy
      obtain ⟨j, hj⟩ := List.getElem?_of_mem hi
      rw [List.getElem?_drop] at hj
      have hjl := (List.getElem?_eq_some_iff.1 hj).1
      have := hge (q + j) (by omega) hjl
      rwa [List.getD_eq_getElem?_getD (l := s), hj] at this
    have htake : ∀ y ∈ (s.take q).map fun i => w.getD i 0, w.getD k 0 ≤ y := fun y hy => by
      obtain ⟨i, hi, rfl⟩ := List.mem_map.1 hy
      obtain ⟨j, hj⟩ := List.getElem?_of_mem hi
      rw [List.getElem?_take] at hj
      split at hj
      · rename_i hjq
        have h1 := hla (by omega)
        have hq1 : q - 1 < s.length := by omega
        rw [List.getD_eq_getElem?_getD (l := s), List.getElem?_eq_getElem hq1] at h1
        simp only [Option.getD_some] at h1
        rcases Nat.lt_or_ge j (q - 1) with h2 | h2
        · -- the pairs of the part before
          rw [List.pairwise_iff_getElem] at p1
          have hl1 : ((s.take q).map fun i => w.getD i 0).length = q := by simp; omega
          have := p1 j (q - 1) (by omega) (by omega) h2
          simp only [List.getElem_map, List.getElem_take] at this
          have hje := (List.getElem?_eq_some_iff.1 hj).2
          rw [hje] at this
          omega
        · have : j = q - 1 := by omega
          subst this
          have hje := (List.getElem?_eq_some_iff.1 hj).2
          rw [hje] at h1
          exact h1
      · cases hj
    rw [List.pairwise_append, List.pairwise_cons]
    refine ⟨p1, ⟨fun y hy => by have := hdrop y hy; omega, p2⟩, fun x hx y hy => ?_⟩
    rcases List.mem_cons.1 hy with rfl | hy
    · exact htake x hx
    · exact p3 x hx y hy

theorem fsd_facts {w : List Int} {cap : Int} (hv : wv w cap = true) : ∃ g, FitFacts w cap (fsd w cap) (sortedW w w.length) g ∧ tc (ff (sortedW w w.length) cap) = (count g : Int) ∧ 9 * count g ≤ 11 * leastT w cap + 6 ∧ leastT w cap ≤ count g := by
  have h := fit_facts hv (sortedIx_perm w w.length)
  rw [← fsd_yes hv] at h
  have h2 := (ff_facts h.wv).1.tc
  have hp := wv_parts h.wv
  have hb : FitsN (leastT w cap) cap (sortedW w w.length) := (fitsN_perm h.perm).1 (leastT_fits hv)
  refine ⟨_, h, h2, ?_, ?_⟩
  · exact runs_eleven h.runs (fun x hx => hp.1 x hx) hp.2.2.1 (sortedW_pair w w.length) hp.2.1 hb
  · have := lv_least h.lv
    have := h.tc
    omega

end Go.Proofs.Ytiochiokcefbkaa
