
/- Copying a slice that reads, nil or not, over a whole row of the call's own whose elements have any number of cells. No program in sight. -/
import Derived.Test.YthmngaioimohaaaMem
import Derived.Laws.CopyRow
import Derived.Laws.IdiomCopy
import Derived.OwnWalk
namespace Go.Proofs.Ythmngaioimohaaa
open Go.RowKit
set_option linter.unusedVariables false

section
variable {P : Program}
theorem setRow_grown (w : World) (g : Nat) (cs : Array Value) : w.grownBy (w.setRow g cs) (some g) :=
  ⟨rfl, rfl, rfl, by simp [World.setRow], fun k hk hn => by simp [World.setRow, Array.getElem?_modify]; intro e; exact absurd (by rw [e]) hn⟩
theorem copy_rd (w : World) {base : Nat} {dT sT ty e : TypeId} {size : Nat} (hu : P.underlying dT = some (.slice e)) (hs : (P.info? e).map (·.size) = some size) (hp : 0 < size)
    {v : Value} {n : Nat} {ds : List Value} (hown : w.ownsRow base e size v n ds) {A : Option Addr} {c : Nat} {cs : List Value} (hl : cs.length = n * size) (hr : Rd w A cs) (h1 : ∀ u ∈ cs, u.oneCell' = true) :
    ∃ w', (Builtin.copy_ #[dT, sT] ty #[v, .slice A n c]).run P w = .ok (goInt n) w' ∧ w'.ownsRow base e size v n cs ∧ w.grownBy w' v.ownBlock := by
  cases hq : P.info? e with
  | none => simp [hq] at hs
  | some i =>
    have hi : i.size = size := by simpa [hq] using hs
    by_cases hn : n = 0
    · subst hn
      obtain rfl : cs = [] := List.eq_nil_of_length_eq_zero (by simpa using hl)
      have hz : ds = [] := List.eq_nil_of_length_eq_zero (by simpa using hown.1)
      subst hz
      have hld : ∀ (x : Addr), (loadCells x 0).run P w = .ok #[] w := fun x => by simpa using run_loadCells_list (P := P) w x [] (by simp)
      refine ⟨w, ?_, hown, World.grownBy.refl _ _⟩
      rcases hown.2 with ⟨rfl, _⟩ | ⟨g, cap, cur, rfl, _⟩
      · cases A <;> simp [Builtin.copy_, run_underlying hu, Builtin.lenOf, Builtin.firstCells, sizeOf, typeInfo, hq, hld]
      · cases A <;> simp [Builtin.copy_, run_underlying hu, Builtin.lenOf, Builtin.firstCells, sizeOf, typeInfo, hq, hld, storeCells]
    · have hcl : 0 < cs.length := by rw [hl]; exact Nat.mul_pos (by omega) hp
      obtain ⟨a, rfl, _⟩ := hr 0 _ (List.getElem?_eq_getElem hcl)
      have hsrc : ∀ j u, cs[j]? = some u → w.cell? (a.add j) = some u := fun j u hj => by
        obtain ⟨ad, e2, h2⟩ := hr j u hj
        injection e2 with e2
        subst e2; exact h2
      rcases hown.2 with ⟨_, h0⟩ | ⟨g, cap, cur, rfl, hb, hg, hnc, hcm, hcs, htk⟩
      · omega
      · have hfit : n * size ≤ cap * size := Nat.mul_le_mul_right _ hnc
        have hld := run_loadCells_list (P := P) w a cs hsrc
        have hst := run_storeCells_at P g 0 e cs 0 cur w hg (by rw [hcs]; omega) h1
        simp only [Nat.add_zero, Nat.zero_add, List.take_zero, List.nil_append] at hst
        refine ⟨_, by simp [Builtin.copy_, run_underlying hu, Builtin.lenOf, Builtin.firstCells, sizeOf, typeInfo, hq, hi, ← hl, hld, hst]; rfl, ?_, setRow_grown _ _ _⟩
        refine ⟨hl, .inr ⟨g, cap, (cs ++ cur.toList.drop cs.length).toArray, rfl, hb, setRow_heap w g cur _ e _ hg, hnc, hcm, ?_, ?_⟩⟩
        · first | (simp; done) | (simp; omega)
        · simp only [← hl, List.take_left']
theorem wpList_copy_rd {ops : Array Oper} {rest : List Oper} {o : Oper} {a : Act} {w : World} {Q : Exit → Act → World → Prop} (hgd : o.guard = none) (d s : Operand) (dT sT : TypeId)
    (ho : o.op = .call { callee := .builtin .copy, args := #[d, s], argTypes := #[dT, sT] }) {base : Nat} {e : TypeId} {size : Nat} (hu : P.underlying dT = some (.slice e)) (hs : (P.info? e).map (·.size) = some size) (hp : 0 < size)
    (v : Value) (n : Nat) (ds : List Value) (hd : a.eval d = v) (hown : w.ownsRow base e size v n ds) (A : Option Addr) (c : Nat) (cs : List Value) (hx : a.eval s = .slice A n c) (hl : cs.length = n * size) (hr : Rd w A cs) (h1 : ∀ u ∈ cs, u.oneCell' = true)
    (h : ∀ w', w'.ownsRow base e size v n cs → w.grownBy w' v.ownBlock → wpList P ops Q rest (a.put o.dst (goInt n)) w') : wpList P ops Q (o :: rest) a w := by
  obtain ⟨w', hrun, h2, h3⟩ := copy_rd (P := P) w (dT := dT) (sT := sT) (ty := o.type) hu hs hp hown (c := c) hl hr h1
  refine wpList_plain hgd fun K hK => ?_
  unfold Oper.wp execOp
  simp only [ho, resolve, invoke, builtin, Sem.run_bind, Sem.run_pure, Result.andThen_ok, List.map_toArray, List.map_cons, List.map_nil, hd, hx, hrun]
  exact hK _ _ (h w' h2 h3)
end

end Go.Proofs.Ythmngaioimohaaa
