
/- Plain lists: codes in ascending order; one put in at its place. No program in sight. -/
import Derived.Test.YtefgfdehinpbaaaFwMath
namespace Go.Proofs.Ytefgfdehinpbaaa
open Go.RowKit
set_option linter.unusedVariables false

/-- Ascending: no code before a lesser one. -/
def leB (a b : ByteArray) : Bool := decide (a.data.toList ≤ b.data.toList)
def ltB (a b : ByteArray) : Bool := decide (a.data.toList < b.data.toList)
theorem data_inj {a b : ByteArray} (h : a.data.toList = b.data.toList) : a = b := by
  obtain ⟨⟨x⟩⟩ := a
  obtain ⟨⟨y⟩⟩ := b
  simp only at h
  subst h; rfl
theorem leB_total (a b : ByteArray) : (leB a b || leB b a) = true := by
  simp only [leB, Bool.or_eq_true, decide_eq_true_eq]
  exact Std.le_total
theorem leB_trans {a b c : ByteArray} (h : leB a b = true) (k : leB b c = true) : leB a c = true := by
  simp only [leB, decide_eq_true_eq] at *
  exact Std.le_trans h k
theorem leB_anti {a b : ByteArray} (h : leB a b = true) (k : leB b a = true) : a = b := by
  simp only [leB, decide_eq_true_eq] at *
  exact data_inj (Std.le_antisymm h k)
theorem ltB_not (a b : ByteArray) : ltB a b = !leB b a := by
  simp only [ltB, leB]
  by_cases h : b.data.toList ≤ a.data.toList
  · rw [decide_eq_true h, decide_eq_false]; rfl
    exact Std.not_lt.2 h
  · rw [decide_eq_false h, decide_eq_true]; rfl
    exact Std.not_le.1 h
def srt (l : List ByteArray) : List ByteArray := l.mergeSort leB
theorem srt_perm (l : List ByteArray) : (srt l).Perm l := List.mergeSort_perm _ _
theorem srt_sorted (l : List ByteArray) : (srt l).Pairwise (fun a b => leB a b = true) :=
  by
  have h := List.pairwise_mergeSort (le := leB) (fun a b c h k => leB_trans h k) leB_total l
  exact h
theorem sorted_uniq {l m : List ByteArray} (hp : l.Perm m) (hl : l.Pairwise (fun a b => leB a b = true)) (hm : m.Pairwise (fun a b => leB a b = true)) : l = m :=
  hp.eq_of_pairwise (fun a b _ _ h k => leB_anti h k) hl hm
theorem srt_of_perm {l m : List ByteArray} (hp : m.Perm l) (hm : m.Pairwise (fun a b => leB a b = true)) : m = srt l :=
  sorted_uniq (hp.trans (srt_perm l).symm) hm (srt_sorted l)
theorem srt_perm_eq {l m : List ByteArray} (hp : l.Perm m) : srt l = srt m := srt_of_perm ((srt_perm l).trans hp) (srt_sorted l)
theorem srt_idem {l : List ByteArray} (h : l.Pairwise (fun a b => leB a b = true)) : srt l = l := (srt_of_perm (List.Perm.refl l) h).symm
theorem mem_srt {l : List ByteArray} {c : ByteArray} : c ∈ srt l ↔ c ∈ l := (srt_perm l).mem_iff
theorem srt_length (l : List ByteArray) : (srt l).length = l.length := (srt_perm l).length_eq
theorem srt_nodup {l : List ByteArray} (h : l.Nodup) : (srt l).Nodup := (srt_perm l).nodup_iff.2 h
theorem srt_nil : srt [] = [] := by simp [srt]
/-- One put in before the first that is greater. -/
def insB : List ByteArray → ByteArray → List ByteArray
  | [], s => [s]
  | x :: l, s => if ltB s x then s :: x :: l else x :: insB l s
theorem insB_perm : ∀ (l : List ByteArray) (s : ByteArray), (insB l s).Perm (l ++ [s])
  | [], s => List.Perm.refl _
  | x :: l, s => by
    unfold insB
    split
    · exact (List.perm_append_comm (l₁ := [s]) (l₂ := x :: l))
    · exact (insB_perm l s).cons x
theorem insB_mem {l : List ByteArray} {s c : ByteArray} (h : c ∈ insB l s) : c ∈ l ∨ c = s := by
  have := (insB_perm l s).mem_iff.1 h
  simpa using this
theorem insB_sorted : ∀ {l : List ByteArray} {s : ByteArray}, l.Pairwise (fun a b => leB a b = true) → (insB l s).Pairwise (fun a b => leB a b = true)
  | [], s, _ => by simp [insB]
  | x :: l, s, h => by
    obtain ⟨h1, h2⟩ := List.pairwise_cons.1 h
    unfold insB
    split
    · rename_i hs
      have hsx : leB s x = true := by
        rw [ltB_not] at hs
        have ht := leB_total s x
        cases hl : leB s x with
        | true => rfl
        | false => rw [hl] at ht; simp at ht; rw [ht] at hs; cases hs
      refine List.pairwise_cons.2 ⟨fun a ha => ?_, h⟩
      rcases List.mem_cons.1 ha with rfl | ha
      · exact hsx
      · exact leB_trans hsx (h1 a ha)
    · rename_i hs
      rw [ltB_not] at hs
      have hxs : leB x s = true := by simpa using hs
      refine List.pairwise_cons.2 ⟨fun a ha => ?_, insB_sorted h2⟩
      rcases insB_mem ha with ha | rfl
      · exact h1 a ha
      · exact hxs
theorem insB_srt (l : List ByteArray) (s : ByteArray) : insB (srt l) s = srt (l ++ [s]) :=
  srt_of_perm ((insB_perm _ _).trans ((srt_perm l).append_right [s])) (insB_sorted (srt_sorted l))
theorem insB_length (l : List ByteArray) (s : ByteArray) : (insB l s).length = l.length + 1 := by rw [(insB_perm l s).length_eq]; simp
/-- Split at the place: those not greater, then the rest. -/
theorem insB_split : ∀ {l : List ByteArray} {s : ByteArray} {k : Nat} {x : ByteArray}, (∀ j, j < k → ∀ y, l[j]? = some y → ltB s y = false) → l[k]? = some x → ltB s x = true → insB l s = l.take k ++ s :: l.drop k
  | [], s, k, x, _, hx, _ => by simp at hx
  | y :: l, s, 0, x, _, hx, h => by
    simp only [List.getElem?_cons_zero, Option.some.injEq] at hx
    subst hx
    simp [insB, h]
  | y :: l, s, k + 1, x, hb, hx, h => by
    have h0 := hb 0 (by omega) y rfl
    have := insB_split (l := l) (s := s) (k := k) (x := x) (fun j hj z hz => hb (j + 1) (by omega) z (by simpa using hz)) (by simpa using hx) h
    simp [insB, h0, this]
theorem insB_end : ∀ {l : List ByteArray} {s : ByteArray}, (∀ j, j < l.length → ∀ y, l[j]? = some y → ltB s y = false) → insB l s = l ++ [s]
  | [], s, _ => rfl
  | y :: l, s, hb => by
    have h0 := hb 0 (by simp) y rfl
    have := insB_end (l := l) (s := s) (fun j hj z hz => hb (j + 1) (by simp; omega) z (by simpa using hz))
    simp [insB, h0, this]
end Go.Proofs.Ytefgfdehinpbaaa
