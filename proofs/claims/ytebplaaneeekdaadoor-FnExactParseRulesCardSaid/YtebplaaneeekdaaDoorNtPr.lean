
/- Plain lists: the text of rules, parsed. No program in sight. -/
import Derived.Test.YtebplaaneeekdaaDoorNtFS
import Derived.Lib.Join
import Derived.Lib.Bytealg
import Derived.Lib.IndexLaws
import Derived.Lib.Strings
namespace Go.Proofs.YtebplaaneeekdaaDoor
open Go.RowKit
set_option linter.unusedVariables false

def ofl (l : List UInt8) : ByteArray := ⟨l.toArray⟩
theorem dl_ofl (l : List UInt8) : dl (ofl l) = l := by simp [dl, ofl]
theorem ofl_dl (s : ByteArray) : ofl (dl s) = s := dl_inj (dl_ofl _)

theorem index_is {l : List UInt8} {c : UInt8} {k : Nat} (h : l[k]? = some c) (hb : ∀ j, j < k → l[j]? ≠ some c) : Lib.indexByte l c = (k : Int) := by
  have hge := Lib.indexByte_ge l c
  by_cases h1 : Lib.indexByte l c = -1
  · exact absurd h (Lib.indexByte_none h1 k)
  · obtain ⟨o, ho⟩ : ∃ o : Nat, Lib.indexByte l c = (o : Int) := ⟨(Lib.indexByte l c).toNat, by omega⟩
    obtain ⟨g1, g2⟩ := Lib.indexByte_some ho
    rcases Nat.lt_trichotomy o k with h2 | h2 | h2
    · exact absurd g1 (hb o h2)
    · rw [ho, h2]
    · exact absurd h (g2 k h2)
theorem index_no {l : List UInt8} {c : UInt8} (hb : ∀ j : Nat, l[j]? ≠ some c) : Lib.indexByte l c = -1 := by
  have hge := Lib.indexByte_ge l c
  by_cases h1 : Lib.indexByte l c = -1
  · exact h1
  · exfalso
    obtain ⟨o, ho⟩ : ∃ o : Nat, Lib.indexByte l c = (o : Int) := ⟨(Lib.indexByte l c).toNat, by omega⟩
    exact hb o (Lib.indexByte_some ho).1
theorem index_cases (l : List UInt8) (c : UInt8) : Lib.indexByte l c = -1 ∨ ∃ k : Nat, Lib.indexByte l c = (k : Int) ∧ k < l.length := by
  have hge := Lib.indexByte_ge l c
  by_cases h1 : Lib.indexByte l c = -1
  · exact .inl h1
  · obtain ⟨o, ho⟩ : ∃ o : Nat, Lib.indexByte l c = (o : Int) := ⟨(Lib.indexByte l c).toNat, by omega⟩
    exact .inr ⟨o, ho, (List.getElem?_eq_some_iff.1 (Lib.indexByte_some ho).1).1⟩

/-- A list of bytes, parted at every space. -/
def spl : List UInt8 → List (List UInt8)
  | [] => [[]]
  | c :: l => if c = 32 then [] :: spl l else (match spl l with | x :: r => (c :: x) :: r | [] => [[c]])
theorem spl_form (l : List UInt8) : ∃ x r, spl l = x :: r := by
  cases l with
  | nil => exact ⟨_, _, rfl⟩
  | cons c l =>
    unfold spl
    split
    · exact ⟨_, _, rfl⟩
    · split <;> exact ⟨_, _, rfl⟩
theorem spl_space (l : List UInt8) : spl (32 :: l) = [] :: spl l := by rw [spl, if_pos rfl]
theorem spl_other {c : UInt8} {l x : List UInt8} {r : List (List UInt8)} (h : c ≠ 32) (hx : spl l = x :: r) : spl (c :: l) = (c :: x) :: r := by rw [spl, if_neg h, hx]
theorem spl_none : ∀ {l : List UInt8}, (∀ c ∈ l, c ≠ 32) → spl l = [l]
  | [], _ => rfl
  | c :: l, h => spl_other (h c (by simp)) (spl_none fun d hd => h d (by simp [hd]))
theorem spl_at : ∀ {a b : List UInt8}, (∀ c ∈ a, c ≠ 32) → spl (a ++ 32 :: b) = a :: spl b
  | [], b, _ => spl_space b
  | c :: a, b, h => spl_other (h c (by simp)) (spl_at fun d hd => h d (by simp [hd]))
theorem spl_join : ∀ l : List UInt8, Lib.join (spl l) [32] = l
  | [] => by rw [spl, Lib.join_one]
  | c :: l => by
    obtain ⟨x, r, hx⟩ := spl_form l
    have ih := spl_join l
    rw [hx, Lib.join_cons] at ih
    by_cases h : c = 32
    · subst h
      rw [spl_space, hx, Lib.join_cons]
      have e : Lib.joinTail [32] (x :: r) = ([32] ++ x) ++ Lib.joinTail [32] r := by simp [Lib.joinTail]
      rw [e, List.nil_append, List.append_assoc, ih]; rfl
    · rw [spl_other h hx, Lib.join_cons, List.cons_append, ih]
theorem spl_len : ∀ l : List UInt8, (spl l).length ≤ l.length + 1
  | [] => by simp [spl]
  | c :: l => by
    obtain ⟨x, r, hx⟩ := spl_form l
    have ih := spl_len l
    by_cases h : c = 32
    · subst h; rw [spl_space, List.length_cons, List.length_cons]; omega
    · rw [spl_other h hx, List.length_cons, List.length_cons]; rw [hx, List.length_cons] at ih; omega
theorem spl_le : ∀ (l : List UInt8), ∀ x ∈ spl l, x.length ≤ l.length
  | [], x, h => by simp [spl] at h; subst h; simp
  | c :: l, y, h => by
    obtain ⟨x, r, hx⟩ := spl_form l
    have ih := spl_le l
    by_cases hc : c = 32
    · subst hc
      rw [spl_space] at h
      rcases List.mem_cons.1 h with rfl | h
      · simp
      · have := ih y h; rw [List.length_cons]; omega
    · rw [spl_other hc hx] at h
      rcases List.mem_cons.1 h with rfl | h
      · have := ih x (by rw [hx]; simp); rw [List.length_cons, List.length_cons]; omega
      · have := ih y (by rw [hx]; simp [h]); rw [List.length_cons]; omega

/-- A string, parted at every space. -/
def parts (t : ByteArray) : List ByteArray := (spl (dl t)).map ofl
theorem parts_pos (t : ByteArray) : 0 < (parts t).length := by
  obtain ⟨x, r, hx⟩ := spl_form (dl t)
  rw [parts, hx]; simp
theorem parts_len (t : ByteArray) : (parts t).length ≤ t.size + 1 := by
  rw [parts, List.length_map, ← dl_length]; exact spl_len _
theorem parts_le {t p : ByteArray} (h : p ∈ parts t) : p.size ≤ t.size := by
  obtain ⟨x, hx, rfl⟩ := List.mem_map.1 h
  rw [← dl_length, ← dl_length, dl_ofl]; exact spl_le _ x hx
theorem parts_none {s : ByteArray} (h : Lib.indexByte (dl s) 32 = -1) : parts s = [s] := by
  rw [parts, spl_none (fun c hc e => by
    obtain ⟨k, hk⟩ := List.getElem?_of_mem hc
    exact Lib.indexByte_none h k (by rw [hk, e]))]
  simp [ofl_dl]
theorem dl_extract (s : ByteArray) (a b : Nat) : dl (s.extract a b) = ((dl s).drop a).take (b - a) := Lib.extract_data s a b
theorem drop_of (s : ByteArray) (a : Nat) : dl (s.extract a s.size) = (dl s).drop a := by
  rw [dl_extract, List.take_of_length_le]; rw [List.length_drop, dl_length]; exact Nat.le_refl _
theorem take_of (s : ByteArray) (b : Nat) : dl (s.extract 0 b) = (dl s).take b := by rw [dl_extract, List.drop_zero, Nat.sub_zero]
/-- The parts of the rest of a string, from a place on, where the next space is known. -/
theorem parts_from {s : ByteArray} {a i : Nat} (ha : a ≤ i) (hi : (dl s)[i]? = some 32) (hb : ∀ j, a ≤ j → j < i → (dl s)[j]? ≠ some 32) :
    parts (s.extract a s.size) = s.extract a i :: parts (s.extract (i + 1) s.size) := by
  have hlt := (List.getElem?_eq_some_iff.1 hi).1
  have e : (dl s).drop a = ((dl s).drop a).take (i - a) ++ 32 :: (dl s).drop (i + 1) := by
    have e2 : ((dl s).drop a).drop (i - a) = 32 :: (dl s).drop (i + 1) := by
      rw [List.drop_drop, show a + (i - a) = i by omega, List.drop_eq_getElem_cons hlt]
      congr 1
      exact (List.getElem?_eq_some_iff.1 hi).2
    rw [← e2, List.take_append_drop]
  rw [parts, drop_of, e, spl_at (fun c hc e3 => by
    obtain ⟨k, hk⟩ := List.getElem?_of_mem hc
    rw [List.getElem?_take] at hk
    split at hk
    · rw [List.getElem?_drop] at hk
      exact hb (a + k) (by omega) (by omega) (by rw [hk, e3])
    · cases hk), List.map_cons, parts, drop_of]
  congr 1
  exact dl_inj (by rw [dl_ofl, dl_extract])
theorem parts_last {s : ByteArray} {a : Nat} (ha : a ≤ s.size) (hb : ∀ j, a ≤ j → j < s.size → (dl s)[j]? ≠ some 32) : parts (s.extract a s.size) = [s.extract a s.size] := by
  refine parts_none (index_no fun j hj => ?_)
  rw [drop_of, List.getElem?_drop] at hj
  have := (List.getElem?_eq_some_iff.1 hj).1
  rw [dl_length] at this
  exact hb (a + j) (by omega) this hj
theorem extract_all (s : ByteArray) : s.extract 0 s.size = s := dl_inj (by rw [take_of, List.take_of_length_le]; rw [dl_length]; exact Nat.le_refl _)
theorem parts_at {s : ByteArray} {i : Nat} (h : Lib.indexByte (dl s) 32 = (i : Int)) : i < s.size ∧ parts s = s.extract 0 i :: parts (s.extract (i + 1) s.size) := by
  obtain ⟨h1, h2⟩ := Lib.indexByte_some h
  have hlt := (List.getElem?_eq_some_iff.1 h1).1
  rw [dl_length] at hlt
  have := parts_from (Nat.zero_le i) h1 (fun j _ hj => h2 j hj)
  rw [extract_all] at this
  exact ⟨hlt, this⟩
theorem extract_size (s : ByteArray) {a b : Nat} (hb : b ≤ s.size) : (s.extract a b).size = b - a := by
  rw [← dl_length, dl_extract, List.length_take, List.length_drop, dl_length]; omega

/-- A part read as a rule. -/
def rl (p : ByteArray) : Option Rul := if Lib.indexByte (dl p) 62 = -1 then none else some (p.extract 0 (Lib.indexByte (dl p) 62).toNat, p.extract ((Lib.indexByte (dl p) 62).toNat + 1) p.size)
theorem rl_none {p : ByteArray} (h : Lib.indexByte (dl p) 62 = -1) : rl p = none := by rw [rl, if_pos h]
theorem rl_some {p : ByteArray} {i : Nat} (h : Lib.indexByte (dl p) 62 = (i : Int)) : rl p = some (p.extract 0 i, p.extract (i + 1) p.size) := by
  rw [rl, if_neg (by omega), h]; rfl
theorem rl_idx {p : ByteArray} {r : Rul} (h : rl p = some r) : ∃ i : Nat, Lib.indexByte (dl p) 62 = (i : Int) ∧ i < p.size ∧ r = (p.extract 0 i, p.extract (i + 1) p.size) := by
  rcases index_cases (dl p) 62 with h1 | ⟨i, h1, h2⟩
  · rw [rl_none h1] at h; cases h
  · rw [rl_some h1] at h
    injection h with h
    rw [dl_length] at h2
    exact ⟨i, h1, h2, h.symm⟩
theorem rl_text {p : ByteArray} {r : Rul} (h : rl p = some r) : ruleT r = p := by
  obtain ⟨i, h1, h2, rfl⟩ := rl_idx h
  have h3 := (Lib.indexByte_some h1).1
  have hlt := (List.getElem?_eq_some_iff.1 h3).1
  apply dl_inj
  have e : dl (ruleT (p.extract 0 i, p.extract (i + 1) p.size)) = dl (p.extract 0 i) ++ [62] ++ dl (p.extract (i + 1) p.size) := by
    simp [ruleT, dl]
  rw [e, take_of, drop_of]
  have e2 : (dl p).drop i = 62 :: (dl p).drop (i + 1) := by
    rw [List.drop_eq_getElem_cons hlt]
    congr 1
    exact (List.getElem?_eq_some_iff.1 h3).2
  rw [List.append_assoc, List.singleton_append, ← e2, List.take_append_drop]
theorem rl_sizes {p : ByteArray} {r : Rul} (h : rl p = some r) : r.1.size ≤ p.size ∧ r.2.size ≤ p.size ∧ 0 < p.size := by
  obtain ⟨i, h1, h2, rfl⟩ := rl_idx h
  have e1 := extract_size p (a := 0) (b := i) (by omega)
  have e2 := extract_size p (a := i + 1) (b := p.size) (Nat.le_refl _)
  simp only
  omega

/-- The rules of parts. -/
def rls (ps : List ByteArray) : List Rul := ps.filterMap rl
theorem rls_snoc {ps : List ByteArray} {k : Nat} {p : ByteArray} {r : Rul} (hp : ps[k]? = some p) (hr : rl p = some r) : rls (ps.take (k + 1)) = rls (ps.take k) ++ [r] := by
  rw [rls, rls, take_snoc hp, List.filterMap_append]; simp [hr]
/-- The first k parts are rules. -/
def Good (ps : List ByteArray) (k : Nat) : Prop := ∀ j, j < k → ∀ p, ps[j]? = some p → ∃ r, rl p = some r
theorem good_zero (ps : List ByteArray) : Good ps 0 := fun j hj => by omega
theorem Good.step {ps : List ByteArray} {k : Nat} {p : ByteArray} {r : Rul} (h : Good ps k) (hp : ps[k]? = some p) (hr : rl p = some r) : Good ps (k + 1) := fun j hj q hq => by
  rcases Nat.lt_or_ge j k with h1 | h1
  · exact h j h1 q hq
  · have : j = k := by omega
    subst this
    rw [hp] at hq
    injection hq with hq
    subst hq
    exact ⟨r, hr⟩
theorem Good.len {ps : List ByteArray} : ∀ {k : Nat}, Good ps k → k ≤ ps.length → (rls (ps.take k)).length = k
  | 0, _, _ => by simp [rls]
  | k + 1, h, hk => by
    have hp := List.getElem?_eq_getElem (l := ps) (i := k) (by omega)
    obtain ⟨r, hr⟩ := h k (by omega) _ hp
    rw [rls_snoc hp hr, List.length_append, Good.len (k := k) (fun j hj => h j (by omega)) (by omega)]; rfl
theorem Good.text {ps : List ByteArray} : ∀ {k : Nat}, Good ps k → k ≤ ps.length → (rls (ps.take k)).map ruleT = ps.take k
  | 0, _, _ => by simp [rls]
  | k + 1, h, hk => by
    have hp := List.getElem?_eq_getElem (l := ps) (i := k) (by omega)
    obtain ⟨r, hr⟩ := h k (by omega) _ hp
    rw [rls_snoc hp hr, List.map_append, Good.text (k := k) (fun j hj => h j (by omega)) (by omega), take_snoc hp]
    simp [rl_text hr]
theorem rls_size {t : ByteArray} {k : Nat} : ∀ r ∈ rls ((parts t).take k), r.1.size ≤ t.size ∧ r.2.size ≤ t.size := fun r hr => by
  obtain ⟨p, hp, he⟩ := List.mem_filterMap.1 hr
  have h1 := parts_le (List.mem_of_mem_take hp)
  have h2 := rl_sizes he
  omega

def dashT : ByteArray := ⟨#[45]⟩
open Classical in
/-- Is a text one of rules? -/
noncomputable def prB (t : ByteArray) : Bool := if t = dashT then true else if Good (parts t) (parts t).length ∧ (parts t).length ≤ 20 then rv (rls (parts t)) else false
noncomputable def prL (t : ByteArray) : List Rul := if t = dashT then [] else if prB t then rls (parts t) else []
theorem prB_dash {t : ByteArray} (h : t = dashT) : prB t = true ∧ prL t = [] := by simp [prB, prL, h]
theorem prB_bad {t : ByteArray} (hn : t ≠ dashT) {k : Nat} {p : ByteArray} (hp : (parts t)[k]? = some p) (h : rl p = none) : prB t = false := by
  rw [prB, if_neg hn, if_neg]
  rintro ⟨h1, _⟩
  obtain ⟨r, hr⟩ := h1 k (List.getElem?_eq_some_iff.1 hp).1 p hp
  rw [h] at hr; cases hr
theorem prB_long {t : ByteArray} (hn : t ≠ dashT) (h : 20 < (parts t).length) : prB t = false := by
  rw [prB, if_neg hn, if_neg]
  rintro ⟨_, h1⟩; omega
theorem prB_is {t : ByteArray} (hn : t ≠ dashT) (h : Good (parts t) (parts t).length) (hl : (parts t).length ≤ 20) : prB t = rv (rls (parts t)) := by
  rw [prB, if_neg hn, if_pos ⟨h, hl⟩]
theorem prL_no {t : ByteArray} (h : prB t = false) : prL t = [] := by
  by_cases hn : t = dashT
  · rw [(prB_dash hn).1] at h; cases h
  · rw [prL, if_neg hn, h]; rfl
theorem prL_yes {t : ByteArray} (hn : t ≠ dashT) (h : prB t = true) : prL t = rls (parts t) := by rw [prL, if_neg hn, h]; rfl
theorem prL_rv {t : ByteArray} : rv (prL t) = true := by
  have h0 : rv [] = true := by rfl
  by_cases hn : t = dashT
  · rw [(prB_dash hn).2]; exact h0
  · cases h : prB t with
    | false => rw [prL_no h]; exact h0
    | true =>
      rw [prL_yes hn h]
      unfold prB at h
      rw [if_neg hn] at h
      split at h
      · exact h
      · cases h
/-- The text of rules that were read off a text is that text. -/
theorem fmt_back {t : ByteArray} (h : Good (parts t) (parts t).length) (hr : rv (rls (parts t)) = true) : fmtR (rls (parts t)) = t := by
  have hl := h.len (Nat.le_refl _)
  have ht := h.text (Nat.le_refl _)
  rw [List.take_length] at hl ht
  have hp := parts_pos t
  rw [fmtR_yes hr (by omega), ← fmt_join (by omega), ht]
  apply dl_inj
  have e : (parts t).map (fun x => x.data.toList) = spl (dl t) := by
    rw [parts, List.map_map]
    have : ((fun x : ByteArray => x.data.toList) ∘ ofl) = id := by funext l; exact dl_ofl l
    rw [this, List.map_id]
  show ((Lib.join ((parts t).map fun x => x.data.toList) [32]).toArray).toList = dl t
  rw [e, spl_join]
theorem text_pos {t : ByteArray} {r : Rul} {p : ByteArray} (hp : (parts t)[0]? = some p) (hr : rl p = some r) : t ≠ (⟨#[]⟩ : ByteArray) := by
  rintro rfl
  have h1 := parts_le (List.mem_of_getElem? hp)
  have h2 := (rl_sizes hr).2.2
  have : (⟨#[]⟩ : ByteArray).size = 0 := rfl
  omega

end Go.Proofs.YtebplaaneeekdaaDoor
