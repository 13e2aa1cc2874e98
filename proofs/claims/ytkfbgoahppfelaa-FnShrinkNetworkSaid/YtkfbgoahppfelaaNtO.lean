
/- Offices in memory; the walks of the small functions on them. -/
import Derived.Test.YtkfbgoahppfelaaNtC
import Derived.Deep.WholeRow
namespace Go.Proofs.Ytkfbgoahppfelaa
open Go.RowKit
set_option linter.unusedVariables false

def otf (p : ByteArray × Value) : Value × Value := (.string p.1, p.2)
/-- Offices that read: names and slices of rules. -/
structure OffRd (w : World) (ps : List (ByteArray × Value)) (net : List Off) : Prop where
  len : ps.length = net.length
  row : ∀ (i : Nat) (p : ByteArray × Value) (o : Off), ps[i]? = some p → net[i]? = some o → p.1 = o.1 ∧ Rt w p.2 o.2
def InO (w : World) (v : Value) (net : List Off) : Prop := ∃ ps, Sl w v ps.length (cs2 otf ps) ∧ OffRd w ps net
theorem InO.below {w w' : World} {v : Value} {net : List Off} (h : InO w v net) (hb : Below w.heap.size w w') : InO w' v net := by
  obtain ⟨ps, h1, h2⟩ := h
  exact ⟨ps, h1.below hb, h2.len, fun i p o a b => ⟨(h2.row i p o a b).1, (h2.row i p o a b).2.below hb⟩⟩
theorem InO.form {w : World} {v : Value} {net : List Off} (h : InO w v net) : ∃ A c, v = .slice A net.length c ∧ net.length ≤ c ∧ c ≤ maxLen := by
  obtain ⟨ps, ⟨A, c, rfl, _, h1, h2⟩, h3⟩ := h
  exact ⟨A, c, by rw [h3.len], by rw [← h3.len]; exact h1, h2⟩
theorem InO.at_ {w : World} {A : Option Addr} {n c : Nat} {net : List Off} (h : InO w (.slice A n c) net) {k : Nat} (hk : k < net.length) :
    ∃ ad o u, A = some ad ∧ net[k]? = some o ∧ w.cell? (ad.add (k * 2)) = some (.string o.1) ∧ w.cell? ⟨(ad.add (k * 2)).block, (ad.add (k * 2)).off + 1, none⟩ = some u ∧ Rt w u o.2 := by
  obtain ⟨ps, ⟨A', c', e, hA, _, _⟩, h3⟩ := h
  injection e with e1 e2 e3
  subst e1
  obtain ⟨ad, p, e4, hp, hcA, hcB⟩ := hA.two (k := k) (by rw [h3.len]; exact hk)
  have ho := List.getElem?_eq_getElem hk
  obtain ⟨h5, h6⟩ := h3.row k p _ hp ho
  exact ⟨ad, _, p.2, e4, ho, by rw [← h5]; exact hcA, hcB, h6⟩
def OO (w : World) (lo hi : Nat) (v : Value) (xs : List Off) : Prop := InO w v xs
theorem OO.in_ {w : World} {lo hi : Nat} {v : Value} {xs : List Off} (h : OO w lo hi v xs) : InO w v xs := h
theorem OO.below {w w' : World} {lo hi : Nat} {v : Value} {xs : List Off} (h : OO w lo hi v xs) (hb : Below w.heap.size w w') : OO w' lo hi v xs := InO.below h hb
def SzO (net : List Off) : Prop := ∀ o ∈ net, o.1.size ≤ maxLen ∧ Szr o.2
structure SmO (net : List Off) : Prop where
  len : net.length ≤ 1048576
  each : ∀ o ∈ net, o.2.length ≤ 1048576
theorem heap_alloc_first (w : World) (o : Obj) (k : Nat) (hk : k < w.heap.size) : (w.alloc o).heap[k]? = w.heap[k]? := ((Below.refl w.heap.size w).alloc (Nat.le_refl _) o).block k hk
theorem set_grown (w : World) (a : Addr) (v : Value) : w.grownBy (w.setCell a v) (some a.block) := ⟨rfl, rfl, rfl, by simp, fun k _ hk => heap_setCell_other w a k _ (fun e => hk (by simp [e]))⟩
theorem OR.set {w : World} {lo hi : Nat} {v : Value} {xs : List Rul} {a : Addr} {x : Value} (h : OR w lo hi v xs) (ha : a.block < lo) : OR (w.setCell a x) lo hi v xs := by
  refine ⟨h.row.kept (set_grown w a x) ?_, h.top⟩
  cases hv : v.ownBlock with
  | none => exact .inl rfl
  | some g => right; intro e; injection e with e; have := (h.row.lt g hv).1; omega
theorem cell_other {w : World} {g i g' i' : Nat} {v : Value} (h : g ≠ g' ∨ i ≠ i') : (w.setCell ⟨g, i, none⟩ v).cell? ⟨g', i', none⟩ = w.cell? ⟨g', i', none⟩ :=
  World.cell?_setCell_other _ _ _ _ (fun e => by injection e with e1 e2; omega)
theorem cell_set2 {w : World} {g : Nat} {a b x y : Value} (h0 : w.cell? ⟨g, 0, none⟩ = some x) (h1 : w.cell? ⟨g, 1, none⟩ = some y) :
    ((w.setCell ⟨g, 0, none⟩ a).setCell ⟨g, 1, none⟩ b).cell? ⟨g, 0, none⟩ = some a ∧ ((w.setCell ⟨g, 0, none⟩ a).setCell ⟨g, 1, none⟩ b).cell? ⟨g, 1, none⟩ = some b := by
  constructor
  · exact (cell_other (.inr (by decide))).trans (World.cell?_setCell_same' _ _ _ (by rw [h0]; rfl))
  · exact World.cell?_setCell_same' _ _ _ (by rw [cell_other (.inr (by decide)), h1]; rfl)
theorem snoc_both {α β : Type} {l : List α} {m : List β} (h : l.length = m.length) {x p : α} {y q : β} {i : Nat} (h1 : (l ++ [x])[i]? = some p) (h2 : (m ++ [y])[i]? = some q) : (l[i]? = some p ∧ m[i]? = some q) ∨ (x = p ∧ y = q) := by
  rcases Nat.lt_or_ge i l.length with hi | hi
  · rw [List.getElem?_append_left hi] at h1
    rw [List.getElem?_append_left (by omega)] at h2
    exact .inl ⟨h1, h2⟩
  · have := (List.getElem?_eq_some_iff.1 h1).1
    simp at this
    have e : i = l.length := by omega
    subst e
    simp at h1
    rw [h] at h2
    simp at h2
    exact .inr ⟨h1, h2⟩
theorem off_info : (Try.prog.info? 56).map (fun i => (i.zero, i.size, i.bytes)) = some (some (.agg #[.string ⟨#[]⟩, .slice none 0 0]), 2, 40) := by kernel_rfl

/-- k offices are there, empty ones behind them. -/
def padO (ps : List (ByteArray × Value)) (n : Nat) : List (ByteArray × Value) := ps ++ List.replicate (n - ps.length) (⟨#[]⟩, .slice none 0 0)
theorem padO_length {ps : List (ByteArray × Value)} {n : Nat} (h : ps.length ≤ n) : (padO ps n).length = n := by simp [padO]; omega
theorem padO_at {ps : List (ByteArray × Value)} {n : Nat} (h : ps.length < n) : (padO ps n)[ps.length]? = some (⟨#[]⟩, .slice none 0 0) := by
  rw [padO, List.getElem?_append_right (Nat.le_refl _), Nat.sub_self, List.getElem?_replicate, if_pos (by omega)]
theorem padO_set {ps : List (ByteArray × Value)} {n : Nat} (p : ByteArray × Value) (h : ps.length < n) : (padO ps n).set ps.length p = padO (ps ++ [p]) n := by
  unfold padO
  rw [List.set_append_right _ _ (Nat.le_refl _), Nat.sub_self, List.length_append, List.length_cons, List.length_nil]
  have e : n - ps.length = (n - (ps.length + (0 + 1))) + 1 := by omega
  rw [e, List.replicate_succ, List.set_cons_zero, List.append_assoc]; rfl
theorem padO_full {ps : List (ByteArray × Value)} : padO ps ps.length = ps := by simp [padO]

end Go.Proofs.Ytkfbgoahppfelaa
