
/- Plain lists: rules of a network. No program in sight. -/
import Derived.Test.YthmngaioimohaaaMem
namespace Go.Proofs.Ythmngaioimohaaa
open Go.RowKit
set_option linter.unusedVariables false

def inB (n lo hi : Int) : Bool := decide (lo ≤ n) && decide (n ≤ hi)
theorem inB_low {n lo hi : Int} (h : n < lo) : inB n lo hi = false := by simp [inB, show ¬ lo ≤ n by omega]
theorem inB_true {n lo hi : Int} : inB n lo hi = true ↔ lo ≤ n ∧ n ≤ hi := by simp [inB]
theorem inB_false {n lo hi : Int} : inB n lo hi = false ↔ n < lo ∨ hi < n := by
  rw [← Bool.not_eq_true, inB_true]; omega

/-- A rule: its prefix and where it sends. -/
abbrev Rul := ByteArray × ByteArray
abbrev dl (s : ByteArray) : List UInt8 := s.data.toList
theorem dl_inj {a b : ByteArray} (h : dl a = dl b) : a = b := by
  obtain ⟨⟨x⟩⟩ := a
  obtain ⟨⟨y⟩⟩ := b
  simp only [dl] at h
  subst h; rfl
theorem dl_length (a : ByteArray) : (dl a).length = a.size := by simp [dl]
def digB (u : UInt8) : Bool := decide (48 ≤ u.toNat) && decide (u.toNat ≤ 57)
theorem digB_true {u : UInt8} : digB u = true ↔ 48 ≤ u.toNat ∧ u.toNat ≤ 57 := by simp [digB]
theorem digB_false {u : UInt8} : digB u = false ↔ u.toNat < 48 ∨ 57 < u.toNat := by
  rw [← Bool.not_eq_true, digB_true]; omega
def lowB (u : UInt8) : Bool := decide (97 ≤ u.toNat) && decide (u.toNat ≤ 122)
theorem lowB_true {u : UInt8} : lowB u = true ↔ 97 ≤ u.toNat ∧ u.toNat ≤ 122 := by simp [lowB]
theorem lowB_false {u : UInt8} : lowB u = false ↔ u.toNat < 97 ∨ 122 < u.toNat := by
  rw [← Bool.not_eq_true, lowB_true]; omega
def digs (c : ByteArray) : Bool := (dl c).all digB
def codeB (c : ByteArray) : Bool := decide (c.size = 7) && digs c
def preB (c : ByteArray) : Bool := decide (c.size ≤ 7) && digs c
def nameB (s : ByteArray) : Bool := inB s.size 1 8 && (dl s).all lowB
theorem codeB_mk {c : ByteArray} (h1 : c.size = 7) (h2 : digs c = true) : codeB c = true := by simp [codeB, h1, h2]
theorem codeB_len {c : ByteArray} (h1 : c.size ≠ 7) : codeB c = false := by simp [codeB, h1]
theorem codeB_dig {c : ByteArray} (h1 : digs c = false) : codeB c = false := by simp [codeB, h1]
theorem codeB_parts {c : ByteArray} (h : codeB c = true) : c.size = 7 ∧ digs c = true := by simpa [codeB] using h
theorem preB_mk {c : ByteArray} (h1 : c.size ≤ 7) (h2 : digs c = true) : preB c = true := by simp [preB, h1, h2]
theorem preB_len {c : ByteArray} (h1 : 7 < c.size) : preB c = false := by simp [preB, show ¬ c.size ≤ 7 by omega]
theorem preB_dig {c : ByteArray} (h1 : digs c = false) : preB c = false := by simp [preB, h1]
theorem preB_parts {c : ByteArray} (h : preB c = true) : c.size ≤ 7 ∧ digs c = true := by simpa [preB] using h

/-- Rules that are valid. -/
def rv (rs : List Rul) : Bool := decide (rs.length ≤ 20) && (rs.all (fun r => preB r.1 && nameB r.2) && decide ((rs.map (·.1)).Nodup))
theorem rv_no {b : List Rul} {k : Nat} {x : Rul} (hx : b[k]? = some x) (h : (preB x.1 && nameB x.2) = false) : rv b = false := by
  simp only [rv, all_not (p := fun r : Rul => preB r.1 && nameB r.2) hx h, Bool.false_and, Bool.and_false]
theorem rv_pre {b : List Rul} {k : Nat} {x : Rul} (hx : b[k]? = some x) (h : preB x.1 = false) : rv b = false := rv_no hx (by simp [h])
theorem rv_name {b : List Rul} {k : Nat} {x : Rul} (hx : b[k]? = some x) (h : nameB x.2 = false) : rv b = false := rv_no hx (by simp [h])
theorem rv_long {b : List Rul} (h : 20 < b.length) : rv b = false := by
  rw [rv, decide_eq_false (by omega), Bool.false_and]
theorem rv_dup {b : List Rul} {i k : Nat} {x y : Rul} (hik : i < k) (hi : b[i]? = some x) (hk : b[k]? = some y) (h : x.1 = y.1) : rv b = false := by
  have : ¬ (b.map (·.1)).Nodup := fun hn => by
    rw [List.Nodup, List.pairwise_iff_getElem] at hn
    obtain ⟨h1, h2⟩ := List.getElem?_eq_some_iff.1 hi
    obtain ⟨h3, h4⟩ := List.getElem?_eq_some_iff.1 hk
    exact hn i k (by simpa using h1) (by simpa using h3) hik (by simp [h2, h4, h])
  rw [rv, decide_eq_false this, Bool.and_false, Bool.and_false]
structure Rv (rs : List Rul) : Prop where
  len : rs.length ≤ 20
  pre : ∀ r ∈ rs, preB r.1 = true
  name : ∀ r ∈ rs, nameB r.2 = true
  nodup : (rs.map (·.1)).Nodup
theorem rv_parts {rs : List Rul} (h : rv rs = true) : Rv rs := by
  simp only [rv, Bool.and_eq_true, List.all_eq_true, decide_eq_true_eq] at h
  exact ⟨h.1, fun r hr => (h.2.1 r hr).1, fun r hr => (h.2.1 r hr).2, h.2.2⟩
theorem rv_mk {rs : List Rul} (h : Rv rs) : rv rs = true := by
  simp only [rv, Bool.and_eq_true, List.all_eq_true, decide_eq_true_eq]
  exact ⟨h.len, fun r hr => ⟨h.pre r hr, h.name r hr⟩, h.nodup⟩
theorem Rv.uniq {rs : List Rul} (h : Rv rs) {r q : Rul} (hr : r ∈ rs) (hq : q ∈ rs) (he : r.1 = q.1) : r = q := by
  obtain ⟨i, hi⟩ := List.getElem?_of_mem hr
  obtain ⟨j, hj⟩ := List.getElem?_of_mem hq
  rcases Nat.lt_trichotomy i j with h1 | h1 | h1
  · exfalso
    have := rv_dup h1 hi hj he
    rw [rv_mk h] at this; cases this
  · subst h1; rw [hi] at hj; injection hj
  · exfalso
    have := rv_dup h1 hj hi he.symm
    rw [rv_mk h] at this; cases this
/-- Good so far: the first k rules. -/
def RvTo (b : List Rul) (k : Nat) : Prop := (∀ x ∈ b.take k, preB x.1 = true ∧ nameB x.2 = true) ∧ ((b.take k).map (·.1)).Nodup
theorem rvTo_zero (b : List Rul) : RvTo b 0 := ⟨by simp, by simp⟩
theorem rvTo_step {b : List Rul} {k : Nat} {x : Rul} (h : RvTo b k) (hx : b[k]? = some x) (h1 : preB x.1 = true) (h2 : nameB x.2 = true) (h3 : ∀ j, j < k → ∀ y, b[j]? = some y → y.1 ≠ x.1) : RvTo b (k + 1) := by
  refine ⟨fun y hy => ?_, ?_⟩
  · rw [take_snoc hx] at hy
    rcases List.mem_append.1 hy with hy | hy
    · exact h.1 y hy
    · simp at hy; subst hy; exact ⟨h1, h2⟩
  · rw [take_snoc hx, List.map_append, List.nodup_append]
    refine ⟨h.2, by simp, fun a ha c hc => ?_⟩
    obtain ⟨y, hy, rfl⟩ := List.mem_map.1 ha
    simp at hc
    subst hc
    obtain ⟨j, hj⟩ := List.getElem?_of_mem hy
    rw [List.getElem?_take] at hj
    split at hj
    · exact h3 j (by assumption) y hj
    · cases hj
theorem rvTo_end {b : List Rul} (h : RvTo b b.length) : rv b = decide (b.length ≤ 20) := by
  unfold RvTo at h
  rw [List.take_length] at h
  by_cases hl : b.length ≤ 20
  · rw [decide_eq_true hl]; exact rv_mk ⟨hl, fun r hr => (h.1 r hr).1, fun r hr => (h.1 r hr).2, h.2⟩
  · rw [decide_eq_false hl]; exact rv_long (by omega)

/-- Does c begin with p? -/
def begins (c p : ByteArray) : Bool := decide (dl p <+: dl c)
theorem begins_true {c p : ByteArray} : begins c p = true ↔ dl p <+: dl c := by simp [begins]
theorem begins_le {c p : ByteArray} (h : begins c p = true) : p.size ≤ c.size := by
  have := (begins_true.1 h).length_le
  rwa [dl_length, dl_length] at this
theorem begins_trans {c p q : ByteArray} (h : begins c p = true) (h2 : begins p q = true) : begins c q = true :=
  begins_true.2 ((begins_true.1 h2).trans (begins_true.1 h))
/-- Two beginnings of one code: the shorter is a beginning of the longer. -/
theorem begins_two {c p q : ByteArray} (h : begins c p = true) (h2 : begins c q = true) (hl : q.size ≤ p.size) : begins p q = true :=
  begins_true.2 (List.prefix_of_prefix_length_le (begins_true.1 h2) (begins_true.1 h) (by rw [dl_length, dl_length]; exact hl))
theorem begins_same {c p q : ByteArray} (h : begins c p = true) (h2 : begins c q = true) (hl : q.size = p.size) : p = q := by
  have h3 := begins_true.1 (begins_two h h2 (by omega))
  exact dl_inj (h3.eq_of_length (by rw [dl_length, dl_length]; exact hl)).symm
theorem begins_self (c : ByteArray) : begins c c = true := begins_true.2 List.prefix_rfl

/-- The rule with the longest prefix with which a code begins; the first one of these. -/
def better (c : ByteArray) (b : Option Rul) (r : Rul) : Option Rul :=
  if begins c r.1 = true ∧ (∀ q, b = some q → q.1.size < r.1.size) then some r else b
def bestR (rs : List Rul) (c : ByteArray) : Option Rul := rs.foldl (better c) none
theorem bestR_snoc {rs : List Rul} {c : ByteArray} {k : Nat} {r : Rul} (h : rs[k]? = some r) : bestR (rs.take (k + 1)) c = better c (bestR (rs.take k) c) r := by
  rw [bestR, bestR, take_snoc h, List.foldl_append]; rfl
theorem bestR_app (rs : List Rul) (c : ByteArray) (r : Rul) : bestR (rs ++ [r]) c = better c (bestR rs c) r := by
  rw [bestR, bestR, List.foldl_append]; rfl
theorem better_no {c : ByteArray} {b : Option Rul} {r : Rul} (h : begins c r.1 = false) : better c b r = b := by
  rw [better, if_neg (by rw [h]; simp)]
theorem better_none {c : ByteArray} {r : Rul} (h : begins c r.1 = true) : better c none r = some r := by
  rw [better, if_pos ⟨h, by simp⟩]
theorem better_more {c : ByteArray} {r q : Rul} (h : begins c r.1 = true) (hq : q.1.size < r.1.size) : better c (some q) r = some r := by
  rw [better, if_pos ⟨h, fun s hs => by injection hs with hs; subst hs; exact hq⟩]
theorem better_less {c : ByteArray} {r q : Rul} (hq : r.1.size ≤ q.1.size) : better c (some q) r = some q := by
  rw [better, if_neg (fun h => by have := h.2 q rfl; omega)]

/-- What the best rule is. -/
theorem best_fold {c : ByteArray} : ∀ (rs : List Rul) (b : Option Rul), (∀ q, b = some q → begins c q.1 = true) →
    (∀ r, rs.foldl (better c) b = some r → (r ∈ rs ∨ b = some r) ∧ begins c r.1 = true ∧ (∀ q ∈ rs, begins c q.1 = true → q.1.size ≤ r.1.size) ∧ ∀ q, b = some q → q.1.size ≤ r.1.size) ∧
    (rs.foldl (better c) b = none → b = none ∧ ∀ q ∈ rs, begins c q.1 = false)
  | [], b, hb => ⟨fun r hr => ⟨.inr hr, hb r hr, by simp, fun q hq => by rw [List.foldl_nil] at hr; rw [hr] at hq; injection hq with hq; subst hq; exact Nat.le_refl _⟩, fun h => ⟨h, by simp⟩⟩
  | x :: rs, b, hb => by
    have hb2 : ∀ q, better c b x = some q → begins c q.1 = true := fun q hq => by
      unfold better at hq
      split at hq
      · rename_i h; injection hq with hq; subst hq; exact h.1
      · exact hb q hq
    obtain ⟨h1, h2⟩ := best_fold rs (better c b x) hb2
    rw [List.foldl_cons]
    refine ⟨fun r hr => ?_, fun h => ?_⟩
    · obtain ⟨a1, a2, a3, a4⟩ := h1 r hr
      have key : (r ∈ x :: rs ∨ b = some r) := by
        rcases a1 with a1 | a1
        · exact .inl (by simp [a1])
        · unfold better at a1
          split at a1
          · injection a1 with a1; exact .inl (by simp [a1])
          · exact .inr a1
      refine ⟨key, a2, fun q hq hbq => ?_, fun q hq => ?_⟩
      · rcases List.mem_cons.1 hq with rfl | hq
        · by_cases hc : begins c q.1 = true ∧ (∀ s, b = some s → s.1.size < q.1.size)
          · exact a4 q (by rw [better, if_pos hc])
          · cases hbb : b with
            | none => exact absurd ⟨hbq, by rw [hbb]; simp⟩ hc
            | some s =>
              have hsq : q.1.size ≤ s.1.size := by
                apply Nat.le_of_not_lt
                intro hlt
                exact hc ⟨hbq, fun s' hs' => by rw [hbb] at hs'; injection hs' with hs'; subst hs'; exact hlt⟩
              have := a4 s (by rw [better, if_neg hc, hbb])
              omega
        · exact a3 q hq hbq
      · by_cases hc : begins c x.1 = true ∧ (∀ s, b = some s → s.1.size < x.1.size)
        · have := a4 x (by rw [better, if_pos hc])
          have := hc.2 q hq
          omega
        · exact a4 q (by rw [better, if_neg hc, hq])
    · obtain ⟨b1, b2⟩ := h2 h
      have hc : ¬ (begins c x.1 = true ∧ (∀ s, b = some s → s.1.size < x.1.size)) := fun hc => by
        rw [better, if_pos hc] at b1; cases b1
      rw [better, if_neg hc] at b1
      refine ⟨b1, fun q hq => ?_⟩
      rcases List.mem_cons.1 hq with rfl | hq
      · cases hh : begins c q.1
        · rfl
        · exact absurd ⟨hh, by rw [b1]; simp⟩ hc
      · exact b2 q hq
theorem bestR_some {rs : List Rul} {c : ByteArray} {r : Rul} (h : bestR rs c = some r) : r ∈ rs ∧ begins c r.1 = true ∧ ∀ q ∈ rs, begins c q.1 = true → q.1.size ≤ r.1.size := by
  obtain ⟨h1, h2, h3, _⟩ := (best_fold rs none (by simp)).1 r h
  rcases h1 with h1 | h1
  · exact ⟨h1, h2, h3⟩
  · cases h1
theorem bestR_none {rs : List Rul} {c : ByteArray} : bestR rs c = none ↔ ∀ q ∈ rs, begins c q.1 = false := by
  constructor
  · exact fun h => ((best_fold rs none (by simp)).2 h).2
  · intro h
    cases hb : bestR rs c with
    | none => rfl
    | some r =>
      obtain ⟨h1, h2, _⟩ := bestR_some hb
      rw [h r h1] at h2; cases h2
/-- .. and no other is. -/
theorem bestR_eq {rs : List Rul} {c : ByteArray} {r : Rul} (hu : ∀ r ∈ rs, ∀ q ∈ rs, r.1 = q.1 → r = q) (hr : r ∈ rs) (hb : begins c r.1 = true) (hm : ∀ q ∈ rs, begins c q.1 = true → q.1.size ≤ r.1.size) : bestR rs c = some r := by
  cases hbb : bestR rs c with
  | none => rw [bestR_none.1 hbb r hr] at hb; cases hb
  | some q =>
    obtain ⟨h1, h2, h3⟩ := bestR_some hbb
    have e1 := hm q h1 h2
    have e2 := h3 r hr hb
    rw [hu q h1 r hr (begins_same h2 hb (by omega))]
/-- Where rules send a code. -/
def nextR (rs : List Rul) (c : ByteArray) : Option ByteArray := (bestR rs c).map (·.2)

/-- Rules without one. -/
def dropAt {α : Type} (l : List α) (i : Nat) : List α := l.take i ++ l.drop (i + 1)
theorem dropAt_mem {α : Type} {l : List α} {i : Nat} {x : α} (h : x ∈ dropAt l i) : x ∈ l := by
  rcases List.mem_append.1 h with h | h
  · exact List.mem_of_mem_take h
  · exact List.mem_of_mem_drop h
theorem dropAt_split {α : Type} {l : List α} {i : Nat} {x : α} (h : l[i]? = some x) : l = l.take i ++ x :: l.drop (i + 1) := by
  obtain ⟨hi, he⟩ := List.getElem?_eq_some_iff.1 h
  rw [← he, ← List.drop_eq_getElem_cons hi, List.take_append_drop]
theorem mem_dropAt {α : Type} {l : List α} {i : Nat} {x y : α} (h : l[i]? = some x) (hy : y ∈ l) (hne : y ≠ x) : y ∈ dropAt l i := by
  rw [dropAt_split h] at hy
  rcases List.mem_append.1 hy with hy | hy
  · exact List.mem_append.2 (.inl hy)
  · rcases List.mem_cons.1 hy with rfl | hy
    · exact absurd rfl hne
    · exact List.mem_append.2 (.inr hy)
theorem dropAt_not {rs : List Rul} (h : Rv rs) {i : Nat} {r : Rul} (hi : rs[i]? = some r) : ∀ q ∈ dropAt rs i, q.1 ≠ r.1 := by
  intro q hq he
  have hn := h.nodup
  rw [dropAt_split hi, List.map_append, List.map_cons, List.nodup_append] at hn
  rcases List.mem_append.1 hq with hq | hq
  · exact hn.2.2 q.1 (List.mem_map.2 ⟨q, hq, rfl⟩) r.1 (by simp) he
  · have := (List.nodup_cons.1 hn.2.1).1
    exact this (he ▸ List.mem_map.2 ⟨q, hq, rfl⟩)
theorem dropAt_take {α : Type} {l : List α} {i k : Nat} {x : α} (hk : l[k]? = some x) : dropAt (l.take (k + 1)) i = if k = i then dropAt (l.take k) i else dropAt (l.take k) i ++ [x] := by
  obtain ⟨hkl, he⟩ := List.getElem?_eq_some_iff.1 hk
  have hl : (l.take k).length = k := by simp; omega
  rw [take_snoc hk]
  unfold dropAt
  by_cases h : k = i
  · subst h
    rw [if_pos rfl, List.take_append, List.drop_append, hl, List.take_of_length_le (by omega), List.drop_of_length_le (l := l.take k) (by omega)]
    simp
  · rw [if_neg h]
    rcases Nat.lt_or_ge k i with h1 | h1
    · rw [List.take_of_length_le (l := l.take k ++ [x]) (by simp; omega), List.drop_of_length_le (l := l.take k ++ [x]) (by simp; omega), List.take_of_length_le (l := l.take k) (by omega), List.drop_of_length_le (l := l.take k) (by omega)]
      simp
    · rw [List.take_append_of_le_length (by omega), List.drop_append_of_le_length (by omega), List.append_assoc]
theorem dropAt_full {α : Type} (l : List α) (i : Nat) : dropAt (l.take l.length) i = dropAt l i := by rw [List.take_length]

/-- Rules that change something. -/
def keeps (rs : List Rul) (i : Nat) (r : Rul) : Bool := decide (nextR (dropAt rs i) r.1 ≠ some r.2)
def shrinkTo (rs : List Rul) : Nat → List Rul
  | 0 => []
  | k + 1 => match rs[k]? with
    | none => shrinkTo rs k
    | some r => if keeps rs k r then shrinkTo rs k ++ [r] else shrinkTo rs k
def shrink (rs : List Rul) : List Rul := if rv rs then shrinkTo rs rs.length else []
theorem shrinkTo_yes {rs : List Rul} {k : Nat} {r : Rul} (h : rs[k]? = some r) (h2 : keeps rs k r = true) : shrinkTo rs (k + 1) = shrinkTo rs k ++ [r] := by simp [shrinkTo, h, h2]
theorem shrinkTo_no {rs : List Rul} {k : Nat} {r : Rul} (h : rs[k]? = some r) (h2 : keeps rs k r = false) : shrinkTo rs (k + 1) = shrinkTo rs k := by simp [shrinkTo, h, h2]
theorem shrinkTo_sub (rs : List Rul) : ∀ k, (shrinkTo rs k).Sublist (rs.take k)
  | 0 => by simp [shrinkTo]
  | k + 1 => by
    have ih := shrinkTo_sub rs k
    rw [shrinkTo]
    cases hk : rs[k]? with
    | none => exact ih.trans (List.take_sublist_take_left (by omega))
    | some r =>
      rw [take_snoc hk]
      simp only
      split
      · exact ih.append (List.Sublist.refl _)
      · exact ih.trans (List.sublist_append_left _ _)
theorem shrinkTo_mem (rs : List Rul) : ∀ k q, q ∈ shrinkTo rs k ↔ ∃ i, i < k ∧ rs[i]? = some q ∧ keeps rs i q = true
  | 0, q => by simp [shrinkTo]
  | k + 1, q => by
    have ih := shrinkTo_mem rs k q
    rw [shrinkTo]
    cases hk : rs[k]? with
    | none =>
      simp only
      rw [ih]
      constructor
      · rintro ⟨i, h1, h2⟩; exact ⟨i, by omega, h2⟩
      · rintro ⟨i, h1, h2, h3⟩
        refine ⟨i, ?_, h2, h3⟩
        rcases Nat.lt_or_ge i k with h | h
        · exact h
        · have : i = k := by omega
          subst this; rw [hk] at h2; cases h2
    | some r =>
      simp only
      cases hkp : keeps rs k r
      · simp only [Bool.false_eq_true, if_false]
        rw [ih]
        constructor
        · rintro ⟨i, h1, h2⟩; exact ⟨i, by omega, h2⟩
        · rintro ⟨i, h1, h2, h3⟩
          refine ⟨i, ?_, h2, h3⟩
          rcases Nat.lt_or_ge i k with h | h
          · exact h
          · have : i = k := by omega
            subst this; rw [hk] at h2; injection h2 with h2; subst h2; rw [hkp] at h3; cases h3
      · simp only [if_true, List.mem_append, List.mem_singleton]
        rw [ih]
        constructor
        · rintro (⟨i, h1, h2⟩ | rfl)
          · exact ⟨i, by omega, h2⟩
          · exact ⟨k, by omega, hk, hkp⟩
        · rintro ⟨i, h1, h2, h3⟩
          rcases Nat.lt_or_ge i k with h | h
          · exact .inl ⟨i, h, h2, h3⟩
          · have : i = k := by omega
            subst this; rw [hk] at h2; injection h2 with h2; exact .inr h2.symm
theorem shrink_sub {rs : List Rul} (h : rv rs = true) : (shrink rs).Sublist rs := by
  have := shrinkTo_sub rs rs.length
  rw [List.take_length] at this
  simpa [shrink, h] using this
theorem shrink_mem {rs : List Rul} (h : rv rs = true) {q : Rul} : q ∈ shrink rs ↔ ∃ i, rs[i]? = some q ∧ keeps rs i q = true := by
  simp only [shrink, h, if_true, shrinkTo_mem]
  constructor
  · rintro ⟨i, _, h2⟩; exact ⟨i, h2⟩
  · rintro ⟨i, h2, h3⟩; exact ⟨i, (List.getElem?_eq_some_iff.1 h2).1, h2, h3⟩
theorem rv_sublist {rs qs : List Rul} (h : rv rs = true) (hs : qs.Sublist rs) : rv qs = true := by
  have hp := rv_parts h
  exact rv_mk ⟨by have := hs.length_le; have := hp.len; omega, fun r hr => hp.pre r (hs.subset hr), fun r hr => hp.name r (hs.subset hr), hp.nodup.sublist (hs.map _)⟩
theorem shrink_rv {rs : List Rul} (h : rv rs = true) : rv (shrink rs) = true := rv_sublist h (shrink_sub h)

/-- The rule by which a shrunk list sends what r sent. -/
theorem shrink_for {rs : List Rul} (h : rv rs = true) : ∀ (n : Nat) (r : Rul), r ∈ rs → r.1.size ≤ n →
    ∃ q ∈ shrink rs, q.2 = r.2 ∧ begins r.1 q.1 = true ∧ ∀ q' ∈ shrink rs, begins r.1 q'.1 = true → q'.1.size ≤ q.1.size := by
  have hp := rv_parts h
  intro n
  induction n with
  | zero =>
    intro r hr hn
    obtain ⟨i, hi⟩ := List.getElem?_of_mem hr
    have hk : keeps rs i r = true := by
      rw [keeps, decide_eq_true_eq]
      intro hne
      cases hb : bestR (dropAt rs i) r.1 with
      | none => rw [nextR, hb] at hne; cases hne
      | some q =>
        obtain ⟨h1, h2, _⟩ := bestR_some hb
        exact dropAt_not hp hi q h1 (begins_same (begins_self r.1) h2 (by have := begins_le h2; omega)).symm
    exact ⟨r, (shrink_mem h).2 ⟨i, hi, hk⟩, rfl, begins_self _, fun q' hq' hb => begins_le hb⟩
  | succ n ih =>
    intro r hr hn
    obtain ⟨i, hi⟩ := List.getElem?_of_mem hr
    cases hk : keeps rs i r
    · rw [keeps, decide_eq_false_iff_not, Classical.not_not] at hk
      cases hb : bestR (dropAt rs i) r.1 with
      | none => rw [nextR, hb] at hk; cases hk
      | some r2 =>
        rw [nextR, hb] at hk
        injection hk with hk
        have hk : r2.2 = r.2 := hk
        obtain ⟨h1, h2, h3⟩ := bestR_some hb
        have hne := dropAt_not hp hi r2 h1
        have hlt : r2.1.size < r.1.size := by
          have := begins_le h2
          rcases Nat.lt_or_ge r2.1.size r.1.size with h4 | h4
          · exact h4
          · exact absurd (begins_same (begins_self r.1) h2 (by omega)).symm hne
        obtain ⟨q, hq, hq2, hqb, hqm⟩ := ih r2 (dropAt_mem h1) (by omega)
        refine ⟨q, hq, by rw [hq2, hk], begins_trans h2 hqb, fun q' hq' hb' => ?_⟩
        have hq'r : q' ≠ r := by
          rintro rfl
          obtain ⟨j, hj, hkj⟩ := (shrink_mem h).1 hq'
          have hji : j = i := by
            rcases Nat.lt_trichotomy j i with h5 | h5 | h5
            · have := rv_dup h5 hj hi rfl; rw [h] at this; cases this
            · exact h5
            · have := rv_dup h5 hi hj rfl; rw [h] at this; cases this
          subst hji
          rw [keeps, decide_eq_true_eq] at hkj
          exact hkj (by rw [nextR, hb]; simp [hk])
        have hq'm : q' ∈ dropAt rs i := mem_dropAt hi ((shrink_sub h).subset hq') hq'r
        have := h3 q' hq'm hb'
        exact hqm q' hq' (begins_two h2 hb' this)
    · exact ⟨r, (shrink_mem h).2 ⟨i, hi, hk⟩, rfl, begins_self _, fun q' hq' hb => begins_le hb⟩
/-- Shrunk rules send all codes as before. -/
theorem shrink_next {rs : List Rul} (h : rv rs = true) (c : ByteArray) : nextR (shrink rs) c = nextR rs c := by
  have hp := rv_parts h
  have hps := rv_parts (shrink_rv h)
  cases hb : bestR rs c with
  | none =>
    have h1 := bestR_none.1 hb
    have h2 : bestR (shrink rs) c = none := bestR_none.2 fun q hq => h1 q ((shrink_sub h).subset hq)
    rw [nextR, nextR, hb, h2]
  | some r =>
    obtain ⟨h1, h2, h3⟩ := bestR_some hb
    obtain ⟨q, hq, hq2, hqb, hqm⟩ := shrink_for h _ r h1 (Nat.le_refl _)
    have h4 : bestR (shrink rs) c = some q := bestR_eq (fun a ha b hb he => hps.uniq ha hb he) hq (begins_trans h2 hqb) fun q' hq' hb' =>
      hqm q' hq' (begins_two h2 hb' (h3 q' ((shrink_sub h).subset hq') hb'))
    rw [nextR, nextR, hb, h4]; simp [hq2]

end Go.Proofs.Ythmngaioimohaaa
