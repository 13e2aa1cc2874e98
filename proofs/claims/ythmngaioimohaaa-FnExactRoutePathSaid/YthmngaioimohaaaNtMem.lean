
/- Rules in memory, and the marks that laws write. No program in sight. -/
import Derived.Test.YthmngaioimohaaaRows
import Derived.Test.YthmngaioimohaaaMem2
import Derived.Test.YthmngaioimohaaaNtLaw2
import Derived.Laws.ByValue
namespace Go.Proofs.Ythmngaioimohaaa
open Go.RowKit
set_option linter.unusedVariables false

def rtf (x : Rul) : Value × Value := (.string x.1, .string x.2)
abbrev rcs (xs : List Rul) : List Value := cs2 rtf xs
theorem rcs_oneCell (xs : List Rul) : ∀ u ∈ rcs xs, u.oneCell' = true := cs2_oneCell (fun _ => ⟨rfl, rfl⟩) xs
/-- A slice of rules that reads xs. -/
abbrev Rt (w : World) (v : Value) (xs : List Rul) : Prop := Sl w v xs.length (rcs xs)
theorem made2 {α : Type} (f : α → Value × Value) (x0 : α) (n : Nat) : (madeCells #[(f x0).1, (f x0).2] (n * 2)).toList = cs2 f (List.replicate n x0) := by
  apply List.ext_getElem?
  intro i
  rcases Nat.lt_or_ge i (n * 2) with h | h
  · have h1 : (madeCells #[(f x0).1, (f x0).2] (n * 2)).toList[i]? = some (if i % 2 = 0 then (f x0).1 else (f x0).2) := by
      rcases Nat.mod_two_eq_zero_or_one i with h0 | h0 <;> simp [madeCells, h, h0]
    rw [h1]
    have hk : (List.replicate n x0)[i / 2]? = some x0 := by rw [List.getElem?_replicate, if_pos (by omega)]
    obtain ⟨a, b⟩ := cs2_get (f := f) hk
    rcases Nat.mod_two_eq_zero_or_one i with h0 | h0
    · rw [if_pos h0, ← a]; congr 1; omega
    · rw [if_neg (by omega), ← b]; congr 1; omega
  · rw [List.getElem?_eq_none (by simp [madeCells]; omega), List.getElem?_eq_none (by rw [cs2_length]; simp; omega)]

/-- A string of one byte. -/
def one8 (n : Nat) : ByteArray := ⟨#[n.toUInt8]⟩
theorem one8_size (n : Nat) : (one8 n).size = 1 := rfl
/-- What markText makes of a number. -/
def mtD : Nat → ByteArray → Nat → ByteArray
  | 0, out, _ => out
  | f + 1, out, k => if k = 0 then out else mtD f (one8 (48 + k % 10) ++ out) (k / 10)
def mt (k : Nat) : ByteArray := if k = 0 then ⟨#[109, 48]⟩ else ⟨#[109]⟩ ++ mtD k ⟨#[]⟩ k
theorem mtD_size : ∀ (f : Nat) (out : ByteArray) (k : Nat), (mtD f out k).size ≤ out.size + f
  | 0, out, k => by simp [mtD]
  | f + 1, out, k => by
    rw [mtD]
    split
    · omega
    · have := mtD_size f (one8 (48 + k % 10) ++ out) (k / 10)
      have e : (one8 (48 + k % 10) ++ out : ByteArray).size = 1 + out.size := by rw [ByteArray.size_append, one8_size]
      omega
/-- The marks of n rules from k on. -/
def mkR (k n : Nat) : List Rul := (List.range n).map fun (i : Nat) => (mt (k + 2 * i), mt (k + 2 * i + 1))
theorem mkR_length (k n : Nat) : (mkR k n).length = n := by simp [mkR]
theorem mkR_get {k n i : Nat} (h : i < n) : (mkR k n)[i]? = some (mt (k + 2 * i), mt (k + 2 * i + 1)) := by simp [mkR, h]

/-- Half changed: the first i elements of a list are those of another one. -/
def half {α : Type} (ts xs : List α) (i : Nat) : List α := ts.take i ++ xs.drop i
theorem half_zero {α : Type} (ts xs : List α) : half ts xs 0 = xs := by simp [half]
theorem half_full {α : Type} {ts xs : List α} (h : ts.length = xs.length) : half ts xs xs.length = ts := by
  rw [half, List.take_of_length_le (by omega), List.drop_of_length_le (Nat.le_refl _), List.append_nil]
theorem half_get {α : Type} {ts xs : List α} {i : Nat} (h : ts.length = xs.length) (hi : i ≤ xs.length) : (half ts xs i)[i]? = xs[i]? := by
  rw [half, List.getElem?_append_right (by simp; omega), List.getElem?_drop]
  congr 1
  simp; omega
theorem half_step {α : Type} {ts xs : List α} {i : Nat} {t : α} (h : ts.length = xs.length) (hi : ts[i]? = some t) : (half ts xs i).set i t = half ts xs (i + 1) := by
  obtain ⟨h1, _⟩ := List.getElem?_eq_some_iff.1 hi
  have hl : (ts.take i).length = i := by simp; omega
  unfold half
  rw [List.set_append_right _ _ (by omega), hl, Nat.sub_self, take_snoc hi, List.append_assoc, List.drop_eq_getElem_cons (by omega : i < xs.length), List.set_cons_zero]
  rfl
theorem half_length {α : Type} {ts xs : List α} {i : Nat} (h : ts.length = xs.length) (hi : i ≤ xs.length) : (half ts xs i).length = xs.length := by
  simp [half]; omega
theorem filled_done' {α : Type} {ys xs : List α} {k : Nat} (h : Filled ys xs k) (hk : xs.length = k) : ys = xs := by subst hk; exact h.done

end Go.Proofs.Ythmngaioimohaaa
