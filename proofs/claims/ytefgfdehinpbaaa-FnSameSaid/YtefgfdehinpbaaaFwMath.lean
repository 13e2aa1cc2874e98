
/- Plain lists: orders to forward, and where letters arrive. No program in sight. -/
import Derived.Test.YtefgfdehinpbaaaTyMath
namespace Go.Proofs.Ytefgfdehinpbaaa
open Go.RowKit
set_option linter.unusedVariables false

/-- An order: from a code to another one. -/
abbrev Fwd := ByteArray × ByteArray
theorem codeB_parts {c : ByteArray} (h : codeB c = true) : c.size = 7 ∧ digs c = true := by simpa [codeB] using h

/-- Orders that are valid. -/
def fv (rs : List Fwd) : Bool := decide (rs.length ≤ 30) && (rs.all (fun r => codeB r.1 && codeB r.2) && decide ((rs.map (·.1)).Nodup))
theorem fv_no {b : List Fwd} {k : Nat} {x : Fwd} (hx : b[k]? = some x) (h : (codeB x.1 && codeB x.2) = false) : fv b = false := by
  simp only [fv, all_not (p := fun r : Fwd => codeB r.1 && codeB r.2) hx h, Bool.false_and, Bool.and_false]
theorem fv_from {b : List Fwd} {k : Nat} {x : Fwd} (hx : b[k]? = some x) (h : codeB x.1 = false) : fv b = false := fv_no hx (by simp [h])
theorem fv_to {b : List Fwd} {k : Nat} {x : Fwd} (hx : b[k]? = some x) (h : codeB x.2 = false) : fv b = false := fv_no hx (by simp [h])
theorem fv_long {b : List Fwd} (h : 30 < b.length) : fv b = false := by
  rw [fv, decide_eq_false (by omega), Bool.false_and]
theorem fv_dup {b : List Fwd} {i k : Nat} {x y : Fwd} (hik : i < k) (hi : b[i]? = some x) (hk : b[k]? = some y) (h : x.1 = y.1) : fv b = false := by
  have : ¬ (b.map (·.1)).Nodup := fun hn => by
    rw [List.Nodup, List.pairwise_iff_getElem] at hn
    obtain ⟨h1, h2⟩ := List.getElem?_eq_some_iff.1 hi
    obtain ⟨h3, h4⟩ := List.getElem?_eq_some_iff.1 hk
    exact hn i k (by simpa using h1) (by simpa using h3) hik (by simp [h2, h4, h])
  rw [fv, decide_eq_false this, Bool.and_false, Bool.and_false]
structure Fv (rs : List Fwd) : Prop where
  len : rs.length ≤ 30
  frm : ∀ r ∈ rs, codeB r.1 = true
  to : ∀ r ∈ rs, codeB r.2 = true
  nodup : (rs.map (·.1)).Nodup
theorem fv_parts {rs : List Fwd} (h : fv rs = true) : Fv rs := by
  simp only [fv, Bool.and_eq_true, List.all_eq_true, decide_eq_true_eq] at h
  exact ⟨h.1, fun r hr => (h.2.1 r hr).1, fun r hr => (h.2.1 r hr).2, h.2.2⟩
theorem fv_mk {rs : List Fwd} (h : Fv rs) : fv rs = true := by
  simp only [fv, Bool.and_eq_true, List.all_eq_true, decide_eq_true_eq]
  exact ⟨h.len, fun r hr => ⟨h.frm r hr, h.to r hr⟩, h.nodup⟩
theorem Fv.uniq {rs : List Fwd} (h : Fv rs) {r q : Fwd} (hr : r ∈ rs) (hq : q ∈ rs) (he : r.1 = q.1) : r = q := by
  obtain ⟨i, hi⟩ := List.getElem?_of_mem hr
  obtain ⟨j, hj⟩ := List.getElem?_of_mem hq
  rcases Nat.lt_trichotomy i j with h1 | h1 | h1
  · exfalso
    have := fv_dup h1 hi hj he
    rw [fv_mk h] at this; cases this
  · subst h1; rw [hi] at hj; injection hj
  · exfalso
    have := fv_dup h1 hj hi he.symm
    rw [fv_mk h] at this; cases this
/-- Good so far: the first k orders. -/
def FvTo (b : List Fwd) (k : Nat) : Prop := (∀ x ∈ b.take k, codeB x.1 = true ∧ codeB x.2 = true) ∧ ((b.take k).map (·.1)).Nodup
theorem fvTo_zero (b : List Fwd) : FvTo b 0 := ⟨by simp, by simp⟩
theorem fvTo_step {b : List Fwd} {k : Nat} {x : Fwd} (h : FvTo b k) (hx : b[k]? = some x) (h1 : codeB x.1 = true) (h2 : codeB x.2 = true) (h3 : ∀ j, j < k → ∀ y, b[j]? = some y → y.1 ≠ x.1) : FvTo b (k + 1) := by
  refine ⟨fun y hy => ?_, ?_⟩
  · rw [take_snoc hx] at hy
    rcases List.mem_append.1 hy with hy | hy
    · exact h.1 y hy
    · simp at hy; subst hy; exact ⟨h1, h2⟩
  · rw [take_snoc hx, List.map_append, List.nodup_append]
    refine ⟨h.2, by simp, fun a ha c hc => ?_⟩
    obtain ⟨y, hy, rfl⟩ := List.mem_map.1 ha
    simp at hc
    subst hc
    obtain ⟨j, hj⟩ := List.getElem?_of_mem hy
    rw [List.getElem?_take] at hj
    split at hj
    · exact h3 j (by assumption) y hj
    · cases hj
theorem fvTo_end {b : List Fwd} (h : FvTo b b.length) : fv b = decide (b.length ≤ 30) := by
  unfold FvTo at h
  rw [List.take_length] at h
  by_cases hl : b.length ≤ 30
  · rw [decide_eq_true hl]; exact fv_mk ⟨hl, fun r hr => (h.1 r hr).1, fun r hr => (h.1 r hr).2, h.2⟩
  · rw [decide_eq_false hl]; exact fv_long (by omega)

/-- The place of an order by its code; where it sends. -/
def idxF (rs : List Fwd) (p : ByteArray) : Option Nat := rs.findIdx? (fun r => decide (r.1 = p))
theorem idxF_at {rs : List Fwd} {p : ByteArray} {k : Nat} {r : Fwd} (hk : rs[k]? = some r) (he : r.1 = p) (hb : ∀ j, j < k → ∀ q, rs[j]? = some q → q.1 ≠ p) : idxF rs p = some k := by
  obtain ⟨hkl, hke⟩ := List.getElem?_eq_some_iff.1 hk
  rw [idxF, List.findIdx?_eq_some_iff_getElem]
  refine ⟨hkl, by simp [hke, he], fun j hj => ?_⟩
  have := hb j hj _ (List.getElem?_eq_getElem (by omega))
  simp [this]
theorem idxF_none {rs : List Fwd} {p : ByteArray} (hb : ∀ j, j < rs.length → ∀ q, rs[j]? = some q → q.1 ≠ p) : idxF rs p = none := by
  rw [idxF, List.findIdx?_eq_none_iff]
  intro q hq
  obtain ⟨j, hj⟩ := List.getElem?_of_mem hq
  have := hb j (List.getElem?_eq_some_iff.1 hj).1 q hj
  simp [this]
theorem idxF_some {rs : List Fwd} {p : ByteArray} {k : Nat} (h : idxF rs p = some k) : ∃ r, rs[k]? = some r ∧ r.1 = p ∧ k < rs.length := by
  rw [idxF, List.findIdx?_eq_some_iff_getElem] at h
  obtain ⟨hk, he, _⟩ := h
  exact ⟨rs[k], List.getElem?_eq_getElem hk, by simpa using he, hk⟩
theorem idxF_no {rs : List Fwd} {p : ByteArray} (h : idxF rs p = none) : ∀ r ∈ rs, r.1 ≠ p := by
  rw [idxF, List.findIdx?_eq_none_iff] at h
  intro r hr he
  have := h r hr
  simp [he] at this
def nextF (rs : List Fwd) (c : ByteArray) : Option ByteArray := match idxF rs c with
  | some k => (rs[k]?).map (·.2)
  | none => none
theorem nextF_some {rs : List Fwd} {c : ByteArray} {k : Nat} {r : Fwd} (h : idxF rs c = some k) (hk : rs[k]? = some r) : nextF rs c = some r.2 := by simp [nextF, h, hk]
theorem nextF_none {rs : List Fwd} {c : ByteArray} : nextF rs c = none ↔ ∀ r ∈ rs, r.1 ≠ c := by
  constructor
  · intro h
    cases hi : idxF rs c with
    | none => exact idxF_no hi
    | some k =>
      obtain ⟨r, hr, _⟩ := idxF_some hi
      rw [nextF_some hi hr] at h; cases h
  · intro h
    have : idxF rs c = none := idxF_none fun j _ q hq => h q (List.mem_of_getElem? hq)
    simp [nextF, this]
theorem nextF_mem {rs : List Fwd} {c d : ByteArray} (h : nextF rs c = some d) : (c, d) ∈ rs := by
  cases hi : idxF rs c with
  | none => simp [nextF, hi] at h
  | some k =>
    obtain ⟨r, hr, he, _⟩ := idxF_some hi
    rw [nextF_some hi hr] at h
    injection h with h
    subst he h
    exact List.mem_of_getElem? hr
theorem nextF_of {rs : List Fwd} (h : Fv rs) {r : Fwd} (hr : r ∈ rs) : nextF rs r.1 = some r.2 := by
  cases hq : nextF rs r.1 with
  | none => exact absurd rfl (nextF_none.1 hq r hr)
  | some d =>
    have := h.uniq (nextF_mem hq) hr rfl
    rw [← this]

/-- Followed for at most f more steps, n behind: where letters arrive, and after how many. -/
def resF (rs : List Fwd) : Nat → Nat → ByteArray → Option (ByteArray × Nat)
  | 0, _, _ => none
  | f + 1, n, c => match nextF rs c with
    | none => some (c, n)
    | some d => resF rs f (n + 1) d
def resolve (rs : List Fwd) (c : ByteArray) : Option (ByteArray × Nat) := resF rs (rs.length + 1) 0 c
theorem resF_end {rs : List Fwd} {f n : Nat} {c : ByteArray} (h : nextF rs c = none) : resF rs (f + 1) n c = some (c, n) := by simp [resF, h]
theorem resF_go {rs : List Fwd} {f n : Nat} {c d : ByteArray} (h : nextF rs c = some d) : resF rs (f + 1) n c = resF rs f (n + 1) d := by simp [resF, h]

/-- After n orders letters for c arrive at e. -/
def Ends (rs : List Fwd) : Nat → ByteArray → ByteArray → Prop
  | 0, c, e => c = e ∧ nextF rs c = none
  | n + 1, c, e => ∃ d, nextF rs c = some d ∧ Ends rs n d e
theorem ends_det {rs : List Fwd} : ∀ {n m : Nat} {c e d : ByteArray}, Ends rs n c e → Ends rs m c d → n = m ∧ e = d
  | 0, 0, c, e, d, h, g => ⟨rfl, h.1.symm.trans g.1⟩
  | 0, m + 1, c, e, d, h, g => by obtain ⟨x, hx, _⟩ := g; rw [h.2] at hx; cases hx
  | n + 1, 0, c, e, d, h, g => by obtain ⟨x, hx, _⟩ := h; rw [g.2] at hx; cases hx
  | n + 1, m + 1, c, e, d, h, g => by
    obtain ⟨x, hx, h⟩ := h
    obtain ⟨y, hy, g⟩ := g
    rw [hx] at hy
    injection hy with hy
    subst hy
    have := ends_det h g
    exact ⟨by omega, this.2⟩
/-- The codes on the way. -/
theorem ends_way {rs : List Fwd} : ∀ {n : Nat} {c e : ByteArray}, Ends rs n c e → ∃ l : List ByteArray, l.length = n ∧ l.Nodup ∧ (∀ x ∈ l, ∃ d, nextF rs x = some d) ∧ ∀ x ∈ l, ∃ m, m ≤ n ∧ 1 ≤ m ∧ Ends rs m x e
  | 0, c, e, _ => ⟨[], rfl, by simp, by simp, by simp⟩
  | n + 1, c, e, h => by
    obtain ⟨d, hd, h2⟩ := h
    obtain ⟨l, h1, h3, h4, h5⟩ := ends_way h2
    have hc : Ends rs (n + 1) c e := ⟨d, hd, h2⟩
    refine ⟨c :: l, by simp [h1], List.nodup_cons.2 ⟨fun hm => ?_, h3⟩, fun x hx => ?_, fun x hx => ?_⟩
    · obtain ⟨m, hm1, _, hm2⟩ := h5 c hm
      have := (ends_det hc hm2).1
      omega
    · rcases List.mem_cons.1 hx with rfl | hx
      · exact ⟨d, hd⟩
      · exact h4 x hx
    · rcases List.mem_cons.1 hx with rfl | hx
      · exact ⟨n + 1, by omega, by omega, hc⟩
      · obtain ⟨m, a, b, c⟩ := h5 x hx
        exact ⟨m, by omega, b, c⟩
theorem ends_few {rs : List Fwd} {n : Nat} {c e : ByteArray} (h : Ends rs n c e) : n ≤ rs.length := by
  obtain ⟨l, h1, h3, h4, _⟩ := ends_way h
  have : l.length ≤ (rs.map (·.1)).length := h3.length_le_of_subset fun x hx => by
    obtain ⟨d, hd⟩ := h4 x hx
    exact List.mem_map.2 ⟨_, nextF_mem hd, rfl⟩
  simpa [h1] using this
theorem resF_iff {rs : List Fwd} : ∀ (f n : Nat) (c e : ByteArray) (m : Nat), resF rs f n c = some (e, m) ↔ ∃ k, k < f ∧ m = n + k ∧ Ends rs k c e
  | 0, n, c, e, m => by simp [resF]
  | f + 1, n, c, e, m => by
    cases h : nextF rs c with
    | none =>
      rw [resF_end h]
      constructor
      · intro hh
        injection hh with hh
        injection hh with h1 h2
        subst h1 h2
        exact ⟨0, by omega, rfl, rfl, h⟩
      · rintro ⟨k, hk, rfl, he⟩
        cases k with
        | zero => rw [he.1]; rfl
        | succ k => obtain ⟨d, hd, _⟩ := he; rw [h] at hd; cases hd
    | some d =>
      rw [resF_go h, resF_iff f (n + 1) d e m]
      constructor
      · rintro ⟨k, hk, rfl, he⟩
        exact ⟨k + 1, by omega, by omega, d, h, he⟩
      · rintro ⟨k, hk, rfl, he⟩
        cases k with
        | zero => rw [he.2] at h; cases h
        | succ k =>
          obtain ⟨d', hd, he⟩ := he
          rw [h] at hd
          injection hd with hd
          subst hd
          exact ⟨k, by omega, by omega, he⟩
theorem resolve_iff {rs : List Fwd} {c e : ByteArray} {m : Nat} : resolve rs c = some (e, m) ↔ Ends rs m c e := by
  rw [resolve, resF_iff]
  constructor
  · rintro ⟨k, _, h1, h2⟩
    have : m = k := by omega
    subst this; exact h2
  · intro h
    exact ⟨m, by have := ends_few h; omega, by omega, h⟩
def endF (rs : List Fwd) (c : ByteArray) : Option ByteArray := (resolve rs c).map (·.1)
theorem endF_iff {rs : List Fwd} {c e : ByteArray} : endF rs c = some e ↔ ∃ m, Ends rs m c e := by
  rw [endF, Option.map_eq_some_iff]
  constructor
  · rintro ⟨⟨x, m⟩, h, rfl⟩; exact ⟨m, resolve_iff.1 h⟩
  · rintro ⟨m, h⟩; exact ⟨(e, m), resolve_iff.2 h, rfl⟩
/-- Where a letter arrives no order is. -/
theorem ends_last {rs : List Fwd} : ∀ {n : Nat} {c e : ByteArray}, Ends rs n c e → nextF rs e = none
  | 0, c, e, h => by rw [← h.1]; exact h.2
  | n + 1, c, e, h => by obtain ⟨d, _, h⟩ := h; exact ends_last h
theorem endF_last {rs : List Fwd} {c e : ByteArray} (h : endF rs c = some e) : nextF rs e = none := by
  obtain ⟨m, hm⟩ := endF_iff.1 h; exact ends_last hm
theorem endF_self {rs : List Fwd} {c : ByteArray} (h : nextF rs c = none) : endF rs c = some c := endF_iff.2 ⟨0, rfl, h⟩
theorem endF_next {rs : List Fwd} {c d : ByteArray} (h : nextF rs c = some d) : endF rs c = endF rs d := by
  cases hd : endF rs d with
  | some e =>
    obtain ⟨m, hm⟩ := endF_iff.1 hd
    exact endF_iff.2 ⟨m + 1, d, h, hm⟩
  | none =>
    cases hc : endF rs c with
    | none => rfl
    | some e =>
      obtain ⟨m, hm⟩ := endF_iff.1 hc
      cases m with
      | zero => rw [hm.2] at h; cases h
      | succ m =>
        obtain ⟨d', hd', hm⟩ := hm
        rw [h] at hd'
        injection hd' with hd'
        subst hd'
        rw [endF_iff.2 ⟨m, hm⟩] at hd; cases hd
/-- An endless code has an order. -/
theorem endless_order {rs : List Fwd} {c : ByteArray} (h : endF rs c = none) : ∃ d, nextF rs c = some d := by
  cases hn : nextF rs c with
  | none => rw [endF_self hn] at h; cases h
  | some d => exact ⟨d, rfl⟩
/-- A code stays a code. -/
theorem ends_code {rs : List Fwd} (h : Fv rs) : ∀ {n : Nat} {c e : ByteArray}, codeB c = true → Ends rs n c e → codeB e = true
  | 0, c, e, hc, he => by rw [← he.1]; exact hc
  | n + 1, c, e, hc, he => by
    obtain ⟨d, hd, he⟩ := he
    exact ends_code h (h.to _ (nextF_mem hd)) he
theorem endF_code {rs : List Fwd} (h : Fv rs) {c e : ByteArray} (hc : codeB c = true) (he : endF rs c = some e) : codeB e = true := by
  obtain ⟨m, hm⟩ := endF_iff.1 he; exact ends_code h hc hm

end Go.Proofs.Ytefgfdehinpbaaa
