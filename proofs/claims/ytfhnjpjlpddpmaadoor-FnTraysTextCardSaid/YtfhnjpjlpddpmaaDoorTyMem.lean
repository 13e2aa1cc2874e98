
/- Letters in memory, and the marks that laws write. No program in sight but for the numbers of types. -/
import Derived.Test.YtfhnjpjlpddpmaaDoorRows
import Derived.Test.YtfhnjpjlpddpmaaDoorMem2
import Derived.Test.YtfhnjpjlpddpmaaDoorTyMath
import Derived.Laws.ByValue
namespace Go.Proofs.YtfhnjpjlpddpmaaDoor
open Go.RowKit
set_option linter.unusedVariables false

def ltf (x : Ltr) : Value × Value := (.int .i64 x.1, .string x.2)
abbrev lcs (xs : List Ltr) : List Value := cs2 ltf xs
theorem lcs_oneCell (xs : List Ltr) : ∀ u ∈ lcs xs, u.oneCell' = true := cs2_oneCell (fun _ => ⟨rfl, rfl⟩) xs
/-- A slice of letters that reads xs. -/
abbrev Lt (w : World) (v : Value) (xs : List Ltr) : Prop := Sl w v xs.length (lcs xs)
theorem made2 {α : Type} (f : α → Value × Value) (x0 : α) (n : Nat) : (madeCells #[(f x0).1, (f x0).2] (n * 2)).toList = cs2 f (List.replicate n x0) := by
  apply List.ext_getElem?
  intro i
  rcases Nat.lt_or_ge i (n * 2) with h | h
  · have h1 : (madeCells #[(f x0).1, (f x0).2] (n * 2)).toList[i]? = some (if i % 2 = 0 then (f x0).1 else (f x0).2) := by
      rcases Nat.mod_two_eq_zero_or_one i with h0 | h0 <;> simp [madeCells, h, h0]
    rw [h1]
    have hk : (List.replicate n x0)[i / 2]? = some x0 := by rw [List.getElem?_replicate, if_pos (by omega)]
    obtain ⟨a, b⟩ := cs2_get (f := f) hk
    rcases Nat.mod_two_eq_zero_or_one i with h0 | h0
    · rw [if_pos h0, ← a]; congr 1; omega
    · rw [if_neg (by omega), ← b]; congr 1; omega
  · rw [List.getElem?_eq_none (by simp [madeCells]; omega), List.getElem?_eq_none (by rw [cs2_length]; simp; omega)]

/-- A string of one byte. -/
def one8 (n : Nat) : ByteArray := ⟨#[n.toUInt8]⟩
theorem one8_size (n : Nat) : (one8 n).size = 1 := rfl
/-- What markText makes of a number. -/
def mtD : Nat → ByteArray → Nat → ByteArray
  | 0, out, _ => out
  | f + 1, out, k => if k = 0 then out else mtD f (one8 (48 + k % 10) ++ out) (k / 10)
def mt (k : Nat) : ByteArray := if k = 0 then ⟨#[109, 48]⟩ else ⟨#[109]⟩ ++ mtD k ⟨#[]⟩ k
theorem mtD_size : ∀ (f : Nat) (out : ByteArray) (k : Nat), (mtD f out k).size ≤ out.size + f
  | 0, out, k => by simp [mtD]
  | f + 1, out, k => by
    rw [mtD]
    split
    · omega
    · have := mtD_size f (one8 (48 + k % 10) ++ out) (k / 10)
      have e : (one8 (48 + k % 10) ++ out : ByteArray).size = 1 + out.size := by rw [ByteArray.size_append, one8_size]
      omega
/-- The marks of n letters from k on. -/
def mkL (k n : Nat) : List Ltr := (List.range n).map fun (i : Nat) => ((k : Int) + 2 * (i : Int), mt (k + 2 * i + 1))
theorem mkL_length (k n : Nat) : (mkL k n).length = n := by simp [mkL]
theorem mkL_get {k n i : Nat} (h : i < n) : (mkL k n)[i]? = some ((k : Int) + 2 * (i : Int), mt (k + 2 * i + 1)) := by simp [mkL, h]

/-- .. of lists of letters. -/
def mkLL (k : Nat) (xss : List (List Ltr)) : List (List Ltr) := (List.range xss.length).map fun i => mkL (k + 2 * (xss.take i).flatten.length) (xss.getD i []).length
theorem mkLL_length (k : Nat) (xss : List (List Ltr)) : (mkLL k xss).length = xss.length := by simp [mkLL]
theorem mkLL_get {k i : Nat} {xss : List (List Ltr)} {xs : List Ltr} (h : xss[i]? = some xs) : (mkLL k xss)[i]? = some (mkL (k + 2 * (xss.take i).flatten.length) xs.length) := by
  obtain ⟨h1, h2⟩ := List.getElem?_eq_some_iff.1 h
  simp [mkLL, h1, h2]
theorem flat_len_snoc {xss : List (List Ltr)} {i : Nat} {xs : List Ltr} (h : xss[i]? = some xs) : (xss.take (i + 1)).flatten.length = (xss.take i).flatten.length + xs.length := by
  rw [flat_snoc h, List.length_append]
/-- Half changed: the first i elements of a list are those of another one. -/
def half {α : Type} (ts xs : List α) (i : Nat) : List α := ts.take i ++ xs.drop i
theorem half_zero {α : Type} (ts xs : List α) : half ts xs 0 = xs := by simp [half]
theorem half_full {α : Type} {ts xs : List α} (h : ts.length = xs.length) : half ts xs xs.length = ts := by
  rw [half, List.take_of_length_le (by omega), List.drop_of_length_le (Nat.le_refl _), List.append_nil]
theorem half_get {α : Type} {ts xs : List α} {i : Nat} (h : ts.length = xs.length) (hi : i ≤ xs.length) : (half ts xs i)[i]? = xs[i]? := by
  rw [half, List.getElem?_append_right (by simp; omega), List.getElem?_drop]
  congr 1
  simp; omega
theorem half_step {α : Type} {ts xs : List α} {i : Nat} {t : α} (h : ts.length = xs.length) (hi : ts[i]? = some t) : (half ts xs i).set i t = half ts xs (i + 1) := by
  obtain ⟨h1, _⟩ := List.getElem?_eq_some_iff.1 hi
  have hl : (ts.take i).length = i := by simp; omega
  unfold half
  rw [List.set_append_right _ _ (by omega), hl, Nat.sub_self, take_snoc hi, List.append_assoc, List.drop_eq_getElem_cons (by omega : i < xs.length), List.set_cons_zero]
  rfl
theorem half_length {α : Type} {ts xs : List α} {i : Nat} (h : ts.length = xs.length) (hi : i ≤ xs.length) : (half ts xs i).length = xs.length := by
  simp [half]; omega
theorem filled_done' {α : Type} {ys xs : List α} {k : Nat} (h : Filled ys xs k) (hk : xs.length = k) : ys = xs := by subst hk; exact h.done

end Go.Proofs.YtfhnjpjlpddpmaaDoor
