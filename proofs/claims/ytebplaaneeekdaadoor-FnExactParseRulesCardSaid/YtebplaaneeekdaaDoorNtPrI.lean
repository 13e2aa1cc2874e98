
/- The walk of ParseRules of the program. -/
import Derived.Test.YtebplaaneeekdaaDoorNtRange
import Derived.Test.YtebplaaneeekdaaDoorNtPrT
namespace Go.Proofs.YtebplaaneeekdaaDoor
open Go.RowKit Go.Shelf
set_option linter.unusedVariables false
attribute [local go_sem] Oper.semAt_some

/-- What the function's own variables hold: the two results, the rules so far. -/
structure Held (w W : World) (rv : Value) (ok : Bool) (v : Value) (k : Nat) (rs : List Rul) : Prop where
  below : Below w.heap.size w W
  size : w.heap.size + 6 ≤ W.heap.size
  res : Boxed W w.heap.size 22 rv
  ok : Boxed W (w.heap.size + 1) 4 (.bool ok)
  rules : Boxed W (w.heap.size + 1 + 1) 22 v
  row : W.ownsRow (w.heap.size + 8) 32 2 v k (rcs rs)
section
variable {w W W' : World} {rv v : Value} {ok : Bool} {k : Nat} {rs : List Rul}
theorem row_far (h : W.ownsRow (w.heap.size + 8) 32 2 v k (rcs rs)) {b : Nat} (hb : b < w.heap.size + 8) : v.ownBlock = none ∨ v.ownBlock ≠ some b := by
  cases e : v.ownBlock with
  | none => exact .inl rfl
  | some g => exact .inr (by intro e2; cases e2; have := (h.lt _ e).1; omega)
/-- Whatever turns a block from the iterator's variables on, or none, but the rules' own row. -/
theorem Held.turn (h : Held w W rv ok v k rs) {row : Option Nat} (hg : W.grownBy W' row) (hr : ∀ r, row = some r → w.heap.size + 3 ≤ r) (hv : v.ownBlock = none ∨ v.ownBlock ≠ row) : Held w W' rv ok v k rs where
  below := h.below.grown hg (by have := h.size; omega) (fun r e => by have := hr r e; omega)
  size := Nat.le_trans h.size hg.size
  res := h.res.kept hg (by intro e; have := hr _ e.symm; omega)
  ok := h.ok.kept hg (by intro e; have := hr _ e.symm; omega)
  rules := h.rules.kept hg (by intro e; have := hr _ e.symm; omega)
  row := h.row.kept hg hv
theorem Held.put (h : Held w W rv ok v k rs) {l : Nat} {o : Obj} (o' : Obj) (hl : w.heap.size + 6 ≤ l) (ho : W.heap[l]? = some o) (hc : o.isCells = false) : Held w (W.putObj l o') rv ok v k rs :=
  h.turn (grownBy_putObj' W l o') (fun r e => by cases e; omega) (by
    rcases h.row.2 with ⟨rfl, _⟩ | ⟨g, cap, cur, rfl, _, hgb, _⟩
    · exact .inl rfl
    · refine .inr fun e2 => ?_
      obtain rfl : g = l := by simpa [Value.ownBlock] using e2
      rw [hgb] at ho; cases ho; cases hc)
theorem Held.set (h : Held w W rv ok v k rs) (u : Value) : Held w (W.setCell ⟨w.heap.size + 1 + 1 + 1, 0, none⟩ u) rv ok v k rs :=
  h.turn (grownBy_setCell' W _ u) (fun r e => by cases e; omega) (row_far h.row (by omega))
theorem Held.drewN (h : Held w W rv ok v k rs) (n : Nat) : Held w (W.drewN n) rv ok v k rs :=
  ⟨below_drewN h.below n, h.size, h.res, h.ok, h.rules, own_heap (heap_drewN W n) h.row⟩
theorem Held.alloc (h : Held w W rv ok v k rs) (o : Obj) : Held w (W.alloc o) rv ok v k rs :=
  h.turn (World.grownBy_alloc W o none) (fun r e => by cases e) (by cases v.ownBlock <;> simp)
theorem Held.later (h : Held w W rv ok v k rs) (hb : Below W.heap.size W W') : Held w W' rv ok v k rs where
  below := h.below.trans (hb.mono (by have := h.size; omega))
  size := Nat.le_trans h.size hb.size
  res := (hb.block _ h.res.lt).trans h.res
  ok := (hb.block _ h.ok.lt).trans h.ok
  rules := (hb.block _ h.rules.lt).trans h.rules
  row := own_below h.row hb
theorem Held.setRes (h : Held w W rv ok v k rs) (u : Value) : Held w (W.setCell ⟨w.heap.size, 0, none⟩ u) u ok v k rs where
  below := h.below.setCell (p := ⟨w.heap.size, 0, none⟩) (Nat.le_refl _) u
  size := Nat.le_trans h.size (grownBy_setCell' W _ u).size
  res := h.res.set u
  ok := box_other h.ok (by omega) u
  rules := box_other h.rules (by omega) u
  row := h.row.kept (grownBy_setCell' W _ u) (row_far h.row (by omega))
theorem Held.setOk (h : Held w W rv ok v k rs) (b : Bool) : Held w (W.setCell ⟨w.heap.size + 1, 0, none⟩ (.bool b)) rv b v k rs where
  below := h.below.setCell (p := ⟨w.heap.size + 1, 0, none⟩) (by simp only; omega) _
  size := Nat.le_trans h.size (grownBy_setCell' W _ _).size
  res := box_other h.res (by omega) _
  ok := h.ok.set _
  rules := box_other h.rules (by omega) _
  row := h.row.kept (grownBy_setCell' W _ _) (row_far h.row (by omega))
theorem Held.box_later (h : Held w W rv ok v k rs) (hg : W.grownBy W' v.ownBlock) : W'.cell? ⟨w.heap.size + 1 + 1, 0, none⟩ = some v ∧ W'.frozen? ⟨w.heap.size + 1 + 1, 0, none⟩ = false := by
  have hb := h.rules.kept hg (by intro e; have := (h.row.lt _ e.symm).1; omega)
  exact ⟨hb.cell, hb.frozen⟩
/-- One rule more: behind the append and the store. -/
theorem Held.more (h : Held w W rv ok v k rs) {v2 : Value} {r : Rul} (hg : W.grownBy W' v.ownBlock) (hrow : W'.ownsRow (w.heap.size + 8) 32 2 v2 (k + 1) (rcs rs ++ rcs [r])) :
    Held w (W'.setCell ⟨w.heap.size + 1 + 1, 0, none⟩ v2) rv ok v2 (k + 1) (rs ++ [r]) where
  below := (h.below.grown hg (by have := h.size; omega) (fun r e => by have := (h.row.lt r e).1; omega)).setCell (p := ⟨w.heap.size + 1 + 1, 0, none⟩) (by simp only; omega) _
  size := Nat.le_trans h.size (Nat.le_trans hg.size (grownBy_setCell' W' _ _).size)
  res := box_other (h.res.kept hg (by intro e; have := (h.row.lt _ e.symm).1; omega)) (by omega) _
  ok := box_other (h.ok.kept hg (by intro e; have := (h.row.lt _ e.symm).1; omega)) (by omega) _
  rules := (h.rules.kept hg (by intro e; have := (h.row.lt _ e.symm).1; omega)).set _
  row := by
    rw [show rcs (rs ++ [r]) = rcs rs ++ rcs [r] from cs2_append _ _]
    refine hrow.kept (grownBy_setCell' W' _ _) ?_
    cases e : v2.ownBlock with
    | none => exact .inl rfl
    | some g => exact .inr (by intro e2; cases e2; have := (hrow.lt _ e).1; omega)
end
theorem held_start (w : World) (t : ByteArray) (o1 o2 o3 : Obj) : Held w ((((((w.alloc (.cells #[.slice none 0 0] 22)).alloc (.cells #[.bool false] 4)).alloc (.cells #[.slice none 0 0] 22)).alloc o1).alloc o2).alloc o3) (.slice none 0 0) false (.slice none 0 0) 0 [] := by
  have b0 := Boxed.new w 22 (.slice none 0 0)
  have b1 := Boxed.new (w.alloc (.cells #[.slice none 0 0] 22)) 4 (.bool false)
  have b2 := Boxed.new ((w.alloc (.cells #[.slice none 0 0] 22)).alloc (.cells #[.bool false] 4)) 22 (.slice none 0 0)
  simp only [World.size_alloc] at b1 b2
  exact ⟨(((((((Below.refl _ w).alloc (Nat.le_refl _) _).alloc (by simp) _).alloc (by simp; omega) _).alloc (by simp; omega) _).alloc (by simp; omega) _).alloc (by simp; omega) _),
    by simp only [World.size_alloc]; omega, ((((b0.alloc _).alloc _).alloc _).alloc _).alloc _, (((b1.alloc _).alloc _).alloc _).alloc _, ((b2.alloc _).alloc _).alloc _, World.ownsRow_nil _ _ _ _⟩
/-- Between two rounds. -/
def Rounds (t : ByteArray) (w : World) (k : Nat) (W : World) : Prop := ∃ v rs, Held w W (.slice none 0 0) false v k rs ∧ rs = rls ((parts t).take k) ∧ rs.length = k ∧ Good (parts t) k ∧ k ≤ 20
/-- A round has left the function: no rules. -/
def Left_ (t : ByteArray) (w W : World) : Prop := prB t = false ∧ ∃ v k rs, Held w W (.slice none 0 0) false v k rs

section
variable {B b0 : Nat} {U V W : World}
theorem KeptB.refl : KeptB B b0 W W := fun j h => rfl
theorem KeptB.trans (h : KeptB B b0 U V) (k : KeptB B b0 V W) : KeptB B b0 U W := fun j hj => (k j hj).trans (h j hj)
theorem keptB_drewN (n : Nat) : KeptB B b0 W (W.drewN n) := fun j h => rfl
theorem keptB_set {b : Nat} (u : Value) (h1 : b < B) (h2 : b < b0) : KeptB B b0 W (W.setCell ⟨b, 0, none⟩ u) := fun j hj => Below.heap_setCell _ _ _ _ (by simp only; omega)
theorem keptB_grown {row : Option Nat} (hg : U.grownBy V row) (hr : ∀ r, row = some r → b0 + 2 ≤ r ∧ B + 3 ≤ r) (h1 : B + 3 ≤ U.heap.size) (h2 : b0 + 2 ≤ U.heap.size) : KeptB B b0 U V := fun j hj =>
  hg.block j (by omega) (fun e => by have := hr j e.symm; omega)
theorem keptB_alloc (o : Obj) (h1 : B + 3 ≤ W.heap.size) (h2 : b0 + 2 ≤ W.heap.size) : KeptB B b0 W (W.alloc o) := fun j hj => Below.heap_alloc _ _ _ (by omega)
end

theorem results_two (tmps : Array Value) (W : World) (N : Nat) (u : Value) (b : Bool) (h2 : tmps.getD 2 undef = .pointer (some ⟨N, 0, none⟩)) (h3 : tmps.getD 3 undef = .pointer (some ⟨N + 1, 0, none⟩))
    (c0 : W.cell? ⟨N, 0, none⟩ = some u) (c1 : W.cell? ⟨N + 1, 0, none⟩ = some (.bool b)) : (results Tryd.f5 tmps).run Tryd.prog W = .ok (.tuple #[u, .bool b]) W := by
  have z1 := Tryd.isAgg22
  have z2 := Tryd.isAgg4
  simp only [results, Tryd.results5]
  have g2 : tmps[2]?.getD undef = .pointer (some ⟨N, 0, none⟩) := by simpa using h2
  have g3 : tmps[3]?.getD undef = .pointer (some ⟨N + 1, 0, none⟩) := by simpa using h3
  simp [Sem.run_bind, Result.andThen, go_sem, g2, g3, c0, c1, z1, z2, loadVar]
theorem leave_two {w W : World} {u v : Value} {b : Bool} {k : Nat} {rs : List Rul} {tmps : Array Value} {R : Ending → World → Prop} (hH : Held w W u b v k rs)
    (hK : W.heap[w.heap.size + 1 + 1 + 1 + 1 + 1 + 1]? = some (.deferred (some []))) (h2 : tmps.getD 2 undef = .pointer (some ⟨w.heap.size, 0, none⟩)) (h3 : tmps.getD 3 undef = .pointer (some ⟨w.heap.size + 1, 0, none⟩))
    (hR : ∀ W', Held w W' u b v k rs → R (.returned (.tuple #[u, .bool b])) W') :
    LeavesInM Fence.wide 6 Tryd.prog Tryd.f5 tmps R [{ target := .collected (w.heap.size + 1 + 1 + 1 + 1 + 1 + 1), args := #[] }] .returning W := by
  have hH2 := hH.put (.deferred none) (l := w.heap.size + 1 + 1 + 1 + 1 + 1 + 1) (by omega) hK rfl
  refine ⟨by simp, .inl ⟨_, _, rfl, run_takeDeferred hK, ?_⟩⟩
  exact ⟨_, results_two tmps _ w.heap.size u b h2 h3 hH2.res.cell hH2.ok.cell, hR _ hH2⟩

theorem keep2 {W : World} {N : Nat} {u v : Value} {o : Obj} (h : W.heap[N + 1 + 1 + 1 + 1 + 1 + 1]? = some o) : ((W.setCell ⟨N, 0, none⟩ u).setCell ⟨N + 1, 0, none⟩ v).heap[N + 1 + 1 + 1 + 1 + 1 + 1]? = some o :=
  ((Below.heap_setCell _ _ _ _ (by simp only; omega)).trans (Below.heap_setCell _ _ _ _ (by simp only; omega))).trans h
theorem left_fin {t : ByteArray} {w W : World} {v : Value} {k : Nat} {rs : List Rul} (h : Held w W (.slice none 0 0) false v k rs) (hno : prB t = false) :
    ∃ u, Ending.returned (.tuple #[.slice none 0 0, .bool false]) = .returned (.tuple #[u, .bool (prB t)]) ∧ OR W w.heap.size W.heap.size u (prL t) ∧ Below w.heap.size w W :=
  ⟨_, tup_b hno.symm, or_nil (prL_no hno) (own_nil _ _ _ _ _), h.below⟩

set_option maxRecDepth 100000 in
set_option maxHeartbeats 3200000 in
theorem impl_pr (t : ByteArray) (w : World) (hs : t.size ≤ 1048576) :
    Calls Tryd.prog 5 #[.string t] w fun e w' => ∃ u, e = .returned (.tuple #[u, .bool (prB t)]) ∧ OR w' w.heap.size w'.heap.size u (prL t) ∧ Below w.heap.size w w' := by
  by_cases hd : t = dashT
  · have e1 : t.toList = [45] := by rw [hd, tl_data]; rfl
    have e2 : (t.toList == [45]) = true := by rw [e1]; rfl
    have Hq := Lib.hid (prB_dash hd)
    clear hd
    refine (callsIn_wide (n := 6)).1 ?_
    refine callsIn_of_wp_marks Tryd.func5 rfl trivial ?_ rfl
    simp only [Tryd.ntmps5, List.size_toArray, List.length_cons, List.length_nil, Nat.reduceAdd, Nat.reduceSub, Array.replicate_succ, Array.replicate_zero, List.push_toArray, List.append_toArray, List.nil_append, List.cons_append]
    gi_wp2
    have b0 := (Boxed.new w 22 (.slice none 0 0)).alloc (.cells #[.bool true] 4)
    have b1 := Boxed.new (w.alloc (.cells #[.slice none 0 0] 22)) 4 (.bool true)
    rw [World.size_alloc] at b1
    exact ⟨_, results_two _ _ w.heap.size (.slice none 0 0) true rfl rfl b0.cell b1.cell, _, tup_b Hq.out.1.symm, or_nil Hq.out.2 (own_nil _ _ _ _ _), ((Below.refl _ _).alloc (Nat.le_refl _) _).alloc (by simp) _⟩
  have e1 : ¬ t.toList = [45] := fun h => hd (dl_inj (show t.data.toList = dashT.data.toList from by rw [← tl_data, h]; rfl))
  have e2 : (t.toList == [45]) = false := by simpa using e1
  have Hd := Lib.hid hd
  clear hd
  refine (callsIn_wide (n := 6)).1 ?_
  refine callsIn_of_wp_marks Tryd.func5 rfl trivial ?_ rfl
  simp only [Tryd.ntmps5, List.size_toArray, List.length_cons, List.length_nil, Nat.reduceAdd, Nat.reduceSub, Array.replicate_succ, Array.replicate_zero, List.push_toArray, List.append_toArray, List.nil_append, List.cons_append]
  gi_wp2
  refine ⟨trivial, (callsIn_wide.2 (split_call t _)).mono ?_⟩
  rintro e w' ⟨rfl, rfl⟩
  simp only [World.size_alloc]
  gi_wp2
  have hst := fun o1 o2 o3 => held_start w t o1 o2 o3
  refine range_split (n := 6) (by omega) (w.heap.size + 1 + 1 + 1) t hs (by simp only [World.size_alloc]; omega) rfl rfl (Rounds t w) (Left_ t w)
    (fun k W o o' l ⟨v, rs, h, h2⟩ h3 _ h4 h5 => ⟨v, rs, h.put o' (by simp only [World.size_alloc] at h3; omega) h4 h5, h2⟩)
    (fun W o o' l ⟨h1, v, k, rs, h⟩ h3 _ h4 h5 => ⟨h1, v, k, rs, h.put o' (by simp only [World.size_alloc] at h3; omega) h4 h5⟩)
    (fun k W s ⟨v, rs, h, h2⟩ => ⟨v, rs, h.set _, h2⟩)
    ?seq (fun o1 o2 => ⟨_, [], ((hst _ _ _).alloc o1).alloc o2, rfl, rfl, good_zero _, by omega⟩)
    (fun p => { tmps := #[.string t, undef, .pointer (some ⟨w.heap.size, 0, none⟩), .pointer (some ⟨w.heap.size + 1, 0, none⟩), .pointer (some ⟨w.heap.size + 1 + 1, 0, none⟩), .string p, undef, undef, undef, .string t, .bool false, .string t, .func (.func 27) #[] #[.pointer (some ⟨w.heap.size + 1 + 1 + 1 + 1, 0, none⟩), .pointer (some ⟨w.heap.size + 1 + 1 + 1, 0, none⟩), .pointer (some ⟨w.heap.size + 1 + 1 + 1 + 2, 0, none⟩)], .string p, undef, undef, undef, undef, undef, undef, undef, undef, undef, undef, undef, undef, undef, undef, undef, undef, undef, undef, undef, undef, undef, undef, undef], defers := [] }) ?assign ?body ?done ?stop
  case seq =>
    have b0 := Boxed.new (((w.alloc (.cells #[.slice none 0 0] 22)).alloc (.cells #[.bool false] 4)).alloc (.cells #[.slice none 0 0] 22)) 9 (.string t)
    have b1 := Boxed.new ((((w.alloc (.cells #[.slice none 0 0] 22)).alloc (.cells #[.bool false] 4)).alloc (.cells #[.slice none 0 0] 22)).alloc (.cells #[.string t] 9)) 9 (.string ⟨#[32]⟩)
    have b2 := Boxed.new (((((w.alloc (.cells #[.slice none 0 0] 22)).alloc (.cells #[.bool false] 4)).alloc (.cells #[.slice none 0 0] 22)).alloc (.cells #[.string t] 9)).alloc (.cells #[.string ⟨#[32]⟩] 9)) 3 (.int .i64 0)
    simp only [World.size_alloc] at b0 b1 b2
    exact ⟨(b0.alloc _).alloc _, b1.alloc _, b2⟩
  case assign =>
    intro l p W K hK
    gi_wp2
    exact hK
  case body =>
    rintro l k p W ⟨v, rs, hH, hrs, hrl, hg, hk20⟩ hp hsz
    simp only [World.size_alloc] at hsz
    have hpz := parts_le (List.mem_of_getElem? hp)
    have Hc := Lib.hid (cut_any p W (by omega))
    obtain ⟨C, cp, rfl, _, _, _, _⟩ := own_form hH.row
    have hcr := hH.rules.cell
    have hfr := hH.rules.frozen
    have hc0 := hH.res.cell
    have hf0 := hH.res.frozen
    have hc1 := hH.ok.cell
    have hf1 := hH.ok.frozen
    cases hr : rl p with
    | none =>
      have Hv := Lib.hid (cutV_no hr)
      rw [Hv.out] at Hc
      have Hno := Lib.hid (prB_bad Hd.out hp hr)
      clear hr hp hpz
      gi_wp2
      refine ⟨trivial, CallsIn.inRound l ((callsIn_wide.2 Hc.out).mono ?_)⟩
      rintro e w' ⟨rfl, n, rfl⟩
      gi_wp2
      simp only [World.size_alloc]
      exact ⟨((keptB_drewN n).trans (keptB_set _ (by omega) (by omega))).trans (keptB_set _ (by omega) (by omega)), Hno.out, _, _, _, ((hH.drewN n).setRes _).setOk false⟩
    | some r =>
      have Hv := Lib.hid (cutV_yes hr)
      rw [Hv.out] at Hc
      by_cases h20 : k = 20
      · have Hno := Lib.hid (prB_long Hd.out (by have := (List.getElem?_eq_some_iff.1 hp).1; omega))
        have e20 : ((k : Int) == 20) = true := by simp [h20]
        have HH := Lib.hid hH
        clear hr hp hpz h20 hrs hrl hg hH
        gi_wp2
        refine ⟨trivial, CallsIn.inRound l ((callsIn_wide.2 Hc.out).mono ?_)⟩
        rintro e w' ⟨rfl, n, rfl⟩
        gi_wp2
        simp only [World.size_alloc]
        exact ⟨((keptB_drewN n).trans (keptB_set _ (by omega) (by omega))).trans (keptB_set _ (by omega) (by omega)), Hno.out, _, _, _, ((HH.out.drewN n).setRes _).setOk false⟩
      · have e20 : ((k : Int) == 20) = false := by simp only [beq_eq_false_iff_ne]; omega
        have HH := Lib.hid hH
        have Hrl := Lib.hid hrl
        have Hrs : Hid (rs ++ [r] = rls ((parts t).take (k + 1))) := Lib.hid (by rw [rls_snoc hp hr, ← hrs])
        have Hg := Lib.hid (hg.step hp hr)
        obtain ⟨i0, z0, hi0, hz0, hs0, hb0, hzs0⟩ := rul_elem.info
        have Hrow : Hid (∀ n o, ((W.drewN n).alloc o).ownsRow (w.heap.size + 8) 32 2 (.slice C k cp) k (rcs rs)) := Lib.hid fun n o => (own_heap (heap_drewN W n) hH.row).alloc o
        have Hnw : Hid (∀ n j u, (rcs [r])[j]? = some u → ((W.drewN n).alloc (.cells #[.string r.1, .string r.2] 32)).cell? ((⟨W.heap.size, 0, none⟩ : Addr).add j) = some u) := Lib.hid fun n j u hu => by
          obtain ⟨ad, e, hc⟩ := rd_new (W.drewN n) (rcs [r]) 32 j u hu
          injection e with e
          subst e; exact hc
        have Hsb : Hid (∀ n o, w.heap.size + 8 ≤ ((W.drewN n).alloc o).heap.size) := Lib.hid fun n o => by
          have : (W.drewN n).heap.size = W.heap.size := rfl
          rw [World.size_alloc]; omega
        clear hr hp hpz hrs hrl hg hH hcr hfr hc0 hf0 hc1 hf1
        have hcr := fun n => (HH.out.drewN n).rules.cell
        have hfr := fun n => (HH.out.drewN n).rules.frozen
        gi_wp2
        refine ⟨trivial, CallsIn.inRound l ((callsIn_wide.2 Hc.out).mono ?_)⟩
        rintro e w' ⟨rfl, n, rfl⟩
        gi_wp2_with (gi_at_builtin; refine wpListIn_append_own _ rfl (.tmp 27) (.tmp 31) 22 rfl (w.heap.size + 8) 32 i0 z0 2 32 rul_elem.und hi0 hz0 hs0 hb0 hzs0 rul_elem.pos (.slice C k cp) k (rcs rs) rfl (Hrow.out n _) ⟨W.heap.size, 0, none⟩ 1 1 (rcs [r]) rfl rfl (Hnw.out n) (rcs_oneCell _) (by unfold maxLen; omega) (by omega) (Hsb.out n _) ?_; intro v5 w5 hown5 hg5 _; obtain ⟨g5, cp5, rfl⟩ := ownsRow_succ hown5; obtain ⟨hc5, hf5⟩ := Held.box_later ((HH.out.drewN n).alloc (.cells #[.string r.1, .string r.2] 32)) hg5)
        simp only [World.size_alloc]
        have hsn : (W.drewN n).heap.size = W.heap.size := rfl
        refine ⟨(((keptB_drewN n).trans (keptB_alloc (.cells #[.string r.1, .string r.2] 32) (by omega) (by omega))).trans (keptB_grown hg5 (fun g e => by have := (HH.out.row.lt g e).1; omega) (by rw [World.size_alloc]; omega) (by rw [World.size_alloc]; omega))).trans (keptB_set _ (by omega) (by omega)), _, rs ++ [r], ((HH.out.drewN n).alloc (.cells #[.string r.1, .string r.2] 32)).more hg5 hown5, Hrs.out, ?_, Hg.out, by omega⟩
        rw [List.length_append, List.length_singleton, Hrl.out]
  case done =>
    rintro W ⟨v, rs, hH, hrs, hrl, hg, hk20⟩ hK
    rw [List.take_length] at hrs
    have hsr : Szr rs := by
      intro r hr
      have := rls_size (t := t) (k := (parts t).length) r (by rw [List.take_length, ← hrs]; exact hr)
      unfold maxLen; omega
    obtain ⟨C, cp, rfl, _, _, _, _⟩ := own_form hH.row
    have Hrv := Lib.hid (impl_rv _ rs W (by unfold Rt; rw [hrl]; exact sl_own hH.row) hsr)
    have HH := Lib.hid hH
    have hpb := prB_is Hd.out hg hk20
    have Hpb := Lib.hid hpb
    have Hrs := Lib.hid hrs
    have HK := Lib.hid hK
    have Hrl := Lib.hid hrl
    have hcr := hH.rules.cell
    clear hpb hrs hK hrl hg hk20 hH hsr
    gi_wp2
    refine ⟨trivial, (callsIn_wide.2 Hrv.out).mono ?_⟩
    rintro e W2 ⟨rfl, hb2⟩
    have HH2 := Lib.hid (HH.out.later hb2)
    have HK2 := Lib.hid ((hb2.block _ (Array.getElem?_eq_some_iff.1 HK.out).1).trans HK.out)
    have kcr := HH2.out.rules.cell
    have kfr := HH2.out.rules.frozen
    have kc0 := HH2.out.res.cell
    have kf0 := HH2.out.res.frozen
    have kc1 := HH2.out.ok.cell
    have kf1 := HH2.out.ok.frozen
    simp only [World.size_alloc] at HK2
    clear hcr hb2
    cases hq : rv rs with
    | false =>
      have Hno : Hid (prB t = false) := Lib.hid (by rw [Hpb.out, ← Hrs.out, hq])
      clear hq
      gi_wp2
      exact leave_two ((HH2.out.setRes _).setOk false) (keep2 HK2.out) rfl rfl (fun W' h => left_fin h Hno.out)
    | true =>
      have Hyes : Hid (prB t = true) := Lib.hid (by rw [Hpb.out, ← Hrs.out, hq])
      clear hq
      gi_wp2
      refine leave_two ((HH2.out.setRes _).setOk true) (keep2 HK2.out) rfl rfl (fun W' h => ⟨_, tup_b Hyes.out.symm, ?_, h.below⟩)
      rw [prL_yes Hd.out Hyes.out, ← Hrs.out]
      unfold OR
      rw [Hrl.out]
      exact own_of (own_base h.row (by omega))
  case stop =>
    rintro W ⟨hno, v, k, rs, hH⟩ hK
    simp only [World.size_alloc] at hK ⊢
    have HK := Lib.hid hK
    clear hK
    gi_wp2
    exact leave_two hH HK.out rfl rfl (fun W' h => left_fin h hno)
end Go.Proofs.YtebplaaneeekdaaDoor
