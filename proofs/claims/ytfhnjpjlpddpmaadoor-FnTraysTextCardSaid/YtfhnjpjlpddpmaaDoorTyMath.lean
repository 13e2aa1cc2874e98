
/- Plain lists: codes, letters, batches and trays. No program in sight. -/
import Derived.Test.YtfhnjpjlpddpmaaDoorMem
namespace Go.Proofs.YtfhnjpjlpddpmaaDoor
open Go.RowKit
set_option linter.unusedVariables false

def inB (n lo hi : Int) : Bool := decide (lo ≤ n) && decide (n ≤ hi)
theorem inB_low {n lo hi : Int} (h : n < lo) : inB n lo hi = false := by simp [inB, show ¬ lo ≤ n by omega]
theorem inB_true {n lo hi : Int} : inB n lo hi = true ↔ lo ≤ n ∧ n ≤ hi := by simp [inB]
theorem inB_false {n lo hi : Int} : inB n lo hi = false ↔ n < lo ∨ hi < n := by
  rw [← Bool.not_eq_true, inB_true]; omega

/-- A letter: its number and its code. -/
abbrev Ltr := Int × ByteArray
def digB (u : UInt8) : Bool := decide (48 ≤ u.toNat) && decide (u.toNat ≤ 57)
theorem digB_true {u : UInt8} : digB u = true ↔ 48 ≤ u.toNat ∧ u.toNat ≤ 57 := by simp [digB]
theorem digB_false {u : UInt8} : digB u = false ↔ u.toNat < 48 ∨ 57 < u.toNat := by
  rw [← Bool.not_eq_true, digB_true]; omega
def digs (c : ByteArray) : Bool := c.data.toList.all digB
def codeB (c : ByteArray) : Bool := decide (c.size = 7) && digs c
def okL (x : Ltr) : Bool := codeB x.2 && inB x.1 1 9999
/-- Letters that are a batch. -/
def bv (b : List Ltr) : Bool := decide (b.length ≤ 60) && (b.all okL && decide ((b.map (·.1)).Nodup))

theorem codeB_size {c : ByteArray} (h : codeB c = true) : c.size = 7 := by
  simp only [codeB, Bool.and_eq_true, decide_eq_true_eq] at h; exact h.1
theorem codeB_mk {c : ByteArray} (h1 : c.size = 7) (h2 : digs c = true) : codeB c = true := by simp [codeB, h1, h2]
theorem codeB_len {c : ByteArray} (h1 : c.size ≠ 7) : codeB c = false := by simp [codeB, h1]
theorem codeB_dig {c : ByteArray} (h1 : digs c = false) : codeB c = false := by simp [codeB, h1]

theorem bv_no {b : List Ltr} {k : Nat} {x : Ltr} (hx : b[k]? = some x) (h : okL x = false) : bv b = false := by
  simp [bv, all_not (p := okL) hx h]
theorem bv_code {b : List Ltr} {k : Nat} {x : Ltr} (hx : b[k]? = some x) (h : codeB x.2 = false) : bv b = false := bv_no hx (by simp [okL, h])
theorem bv_id {b : List Ltr} {k : Nat} {x : Ltr} (hx : b[k]? = some x) (h : inB x.1 1 9999 = false) : bv b = false := bv_no hx (by simp [okL, h])
theorem bv_long {b : List Ltr} (h : 60 < b.length) : bv b = false := by
  rw [bv, decide_eq_false (by omega), Bool.false_and]
theorem bv_dup {b : List Ltr} {i k : Nat} {x y : Ltr} (hik : i < k) (hi : b[i]? = some x) (hk : b[k]? = some y) (h : x.1 = y.1) : bv b = false := by
  have : ¬ (b.map (·.1)).Nodup := fun hn => by
    rw [List.Nodup, List.pairwise_iff_getElem] at hn
    obtain ⟨h1, h2⟩ := List.getElem?_eq_some_iff.1 hi
    obtain ⟨h3, h4⟩ := List.getElem?_eq_some_iff.1 hk
    exact hn i k (by simpa using h1) (by simpa using h3) hik (by simp [h2, h4, h])
  rw [bv, decide_eq_false this, Bool.and_false, Bool.and_false]
theorem bv_parts {b : List Ltr} (h : bv b = true) : b.length ≤ 60 ∧ (∀ x ∈ b, codeB x.2 = true ∧ 1 ≤ x.1 ∧ x.1 ≤ 9999) ∧ (b.map (·.1)).Nodup := by
  simp only [bv, okL, Bool.and_eq_true, List.all_eq_true, decide_eq_true_eq, inB_true] at h
  exact ⟨h.1, h.2.1, h.2.2⟩
theorem bv_mk {b : List Ltr} (h1 : b.length ≤ 60) (h2 : ∀ x ∈ b, codeB x.2 = true ∧ 1 ≤ x.1 ∧ x.1 ≤ 9999) (h3 : (b.map (·.1)).Nodup) : bv b = true := by
  simp only [bv, okL, Bool.and_eq_true, List.all_eq_true, decide_eq_true_eq, inB_true]
  exact ⟨h1, h2, h3⟩
/-- Good so far: the first k letters. -/
def BvTo (b : List Ltr) (k : Nat) : Prop := (∀ x ∈ b.take k, codeB x.2 = true ∧ 1 ≤ x.1 ∧ x.1 ≤ 9999) ∧ ((b.take k).map (·.1)).Nodup
theorem bvTo_zero (b : List Ltr) : BvTo b 0 := ⟨by simp, by simp⟩
theorem bvTo_step {b : List Ltr} {k : Nat} {x : Ltr} (h : BvTo b k) (hx : b[k]? = some x) (h1 : codeB x.2 = true) (h2 : 1 ≤ x.1 ∧ x.1 ≤ 9999) (h3 : ∀ j, j < k → ∀ y, b[j]? = some y → y.1 ≠ x.1) : BvTo b (k + 1) := by
  refine ⟨fun y hy => ?_, ?_⟩
  · rw [take_snoc hx] at hy
    rcases List.mem_append.1 hy with hy | hy
    · exact h.1 y hy
    · simp at hy; subst hy; exact ⟨h1, h2⟩
  · rw [take_snoc hx, List.map_append, List.nodup_append]
    refine ⟨h.2, by simp, fun a ha c hc => ?_⟩
    obtain ⟨y, hy, rfl⟩ := List.mem_map.1 ha
    simp at hc
    subst hc
    obtain ⟨j, hj⟩ := List.getElem?_of_mem hy
    rw [List.getElem?_take] at hj
    split at hj
    · exact h3 j (by assumption) y hj
    · cases hj
theorem bvTo_end {b : List Ltr} (h : BvTo b b.length) : bv b = decide (b.length ≤ 60) := by
  unfold BvTo at h
  rw [List.take_length] at h
  by_cases hl : b.length ≤ 60
  · rw [decide_eq_true hl]; exact bv_mk hl h.1 h.2
  · rw [decide_eq_false hl]; exact bv_long (by omega)

/-- A part of a batch is one. -/
theorem bv_sub {b c : List Ltr} (h : bv b = true) (hs : c.Sublist b) : bv c = true := by
  obtain ⟨h1, h2, h3⟩ := bv_parts h
  exact bv_mk (by have := hs.length_le; omega) (fun x hx => h2 x (hs.subset hx)) (h3.sublist (hs.map _))

/-- The place of a letter by its number. -/
def findI (b : List Ltr) (id : Int) : Int := if bv b then (match b.findIdx? (fun x => x.1 == id) with | some i => (i : Int) | none => -1) else -1
theorem findI_no {b : List Ltr} {id : Int} (h : bv b = false) : findI b id = -1 := by simp [findI, h]
theorem findI_at {b : List Ltr} {id : Int} (h : bv b = true) {k : Nat} {x : Ltr} (hx : b[k]? = some x) (he : x.1 = id) (hb : ∀ j, j < k → ∀ y, b[j]? = some y → y.1 ≠ id) : findI b id = (k : Int) := by
  obtain ⟨hk, hkx⟩ := List.getElem?_eq_some_iff.1 hx
  have : b.findIdx? (fun x => x.1 == id) = some k := by
    rw [List.findIdx?_eq_some_iff_getElem]
    refine ⟨hk, by simp [hkx, he], fun j hj => ?_⟩
    have := hb j hj _ (List.getElem?_eq_getElem (by omega))
    simp [this]
  simp [findI, h, this]
theorem findI_none {b : List Ltr} {id : Int} (h : ∀ j, j < b.length → ∀ y, b[j]? = some y → y.1 ≠ id) : findI b id = -1 := by
  have : b.findIdx? (fun x => x.1 == id) = none := by
    rw [List.findIdx?_eq_none_iff]
    intro x hx
    obtain ⟨j, hj⟩ := List.getElem?_of_mem hx
    have := h j (List.getElem?_eq_some_iff.1 hj).1 x hj
    simp [this]
  simp [findI, this]
theorem findI_mem {b : List Ltr} {id : Int} (h : bv b = true) : 0 ≤ findI b id ↔ ∃ x ∈ b, x.1 = id := by
  simp only [findI, h, if_true]
  cases hq : b.findIdx? (fun x => x.1 == id) with
  | none =>
    rw [List.findIdx?_eq_none_iff] at hq
    refine ⟨fun h => by simp at h, fun ⟨x, hx, he⟩ => ?_⟩
    have := hq x hx
    simp [he] at this
  | some i =>
    rw [List.findIdx?_eq_some_iff_getElem] at hq
    obtain ⟨hi, he, _⟩ := hq
    simp only [Int.natCast_nonneg, true_iff]
    exact ⟨b[i], List.getElem_mem _, by simpa using he⟩

/-- Trays for a size. -/
def tv (ts : List (List Ltr)) (size : Int) : Bool := ts.all (fun t => inB t.length 1 size) && (inB size 1 20 && (decide (ts.length ≤ 60) && bv ts.flatten))
theorem tv_no {ts : List (List Ltr)} {size : Int} {k : Nat} {t : List Ltr} (hx : ts[k]? = some t) (h : inB t.length 1 size = false) : tv ts size = false := by
  simp [tv, all_not (p := fun t : List Ltr => inB t.length 1 size) hx h]
theorem tv_size {ts : List (List Ltr)} {size : Int} (h : inB size 1 20 = false) : tv ts size = false := by simp [tv, h]
theorem tv_many {ts : List (List Ltr)} {size : Int} (h : 60 < ts.length) : tv ts size = false := by
  rw [tv, decide_eq_false (p := ts.length ≤ 60) (by omega)]; simp
theorem tv_bv {ts : List (List Ltr)} {size : Int} (h : bv ts.flatten = false) : tv ts size = false := by simp [tv, h]
theorem tv_parts {ts : List (List Ltr)} {size : Int} (h : tv ts size = true) : (∀ t ∈ ts, 1 ≤ t.length ∧ (t.length : Int) ≤ size) ∧ (1 ≤ size ∧ size ≤ 20) ∧ ts.length ≤ 60 ∧ bv ts.flatten = true := by
  simp only [tv, Bool.and_eq_true, List.all_eq_true, decide_eq_true_eq, inB_true] at h
  exact ⟨fun t ht => by have := h.1 t ht; omega, h.2.1, h.2.2⟩
theorem tv_mk {ts : List (List Ltr)} {size : Int} (h : ∀ t ∈ ts, 1 ≤ t.length ∧ (t.length : Int) ≤ size) (h1 : 1 ≤ size ∧ size ≤ 20) (h2 : ts.length ≤ 60) (h3 : bv ts.flatten = true) : tv ts size = true := by
  simp only [tv, Bool.and_eq_true, List.all_eq_true, decide_eq_true_eq, inB_true]
  exact ⟨fun t ht => by have := h t ht; omega, h1, h2, h3⟩
theorem tv_end {ts : List (List Ltr)} {size : Int} (h : (ts.take ts.length).all (fun t => inB t.length 1 size) = true) : tv ts size = (inB size 1 20 && (decide (ts.length ≤ 60) && bv ts.flatten)) := by
  rw [tv, all_full h, Bool.true_and]
theorem tv_20 {ts : List (List Ltr)} {size : Int} (h : tv ts size = true) : tv ts 20 = true := by
  obtain ⟨h1, h2, h3, h4⟩ := tv_parts h
  exact tv_mk (fun t ht => by have := h1 t ht; omega) (by omega) h3 h4
theorem flat_snoc {ts : List (List Ltr)} {k : Nat} {t : List Ltr} (h : ts[k]? = some t) : (ts.take (k + 1)).flatten = (ts.take k).flatten ++ t := by
  rw [take_snoc h, List.flatten_append]; simp

/-- The beginning of a code. -/
def pre (d : Nat) (c : ByteArray) : ByteArray := c.extract 0 d
/-- One letter more in the trays. -/
def stepT (size d : Nat) (ts : List (List Ltr)) (x : Ltr) : List (List Ltr) :=
  match ts.getLast? with
  | none => [[x]]
  | some t => if t.length = size ∨ (t.getLast?.map fun y => pre d y.2) ≠ some (pre d x.2) then ts ++ [[x]] else ts.dropLast ++ [t ++ [x]]
def fillT (size d : Nat) (b : List Ltr) : List (List Ltr) := b.foldl (stepT size d) []
theorem fillT_nil (size d : Nat) : fillT size d [] = [] := rfl
theorem fillT_snoc {b : List Ltr} {size d k : Nat} {x : Ltr} (hx : b[k]? = some x) : fillT size d (b.take (k + 1)) = stepT size d (fillT size d (b.take k)) x := by
  rw [fillT, fillT, take_snoc hx, List.foldl_append]; rfl

theorem flat_last {ts : List (List Ltr)} {t : List Ltr} (h : ts.getLast? = some t) : ts.dropLast.flatten ++ t = ts.flatten := by
  obtain ⟨us, rfl⟩ := List.getLast?_eq_some_iff.1 h
  simp
theorem stepT_flat (size d : Nat) (ts : List (List Ltr)) (x : Ltr) : (stepT size d ts x).flatten = ts.flatten ++ [x] := by
  unfold stepT
  split
  · rename_i h
    rw [List.getLast?_eq_none_iff] at h
    subst h; rfl
  · rename_i t h
    split
    · simp
    · rw [List.flatten_append, ← flat_last h]; simp
/-- What holds of filled trays. -/
structure FillOk (size d : Nat) (ts : List (List Ltr)) : Prop where
  one : ∀ t ∈ ts, 1 ≤ t.length ∧ t.length ≤ size
  alike : ∀ t ∈ ts, ∀ x ∈ t, ∀ y ∈ t, pre d x.2 = pre d y.2
  next : ∀ i t u, ts[i]? = some t → ts[i + 1]? = some u → t.length = size ∨ ∀ x ∈ t, ∀ y ∈ u, pre d x.2 ≠ pre d y.2
theorem fillOk_nil (size d : Nat) : FillOk size d [] := ⟨by simp, by simp, by simp⟩
theorem fillOk_step {size d : Nat} (hs : 1 ≤ size) {ts : List (List Ltr)} (h : FillOk size d ts) (x : Ltr) : FillOk size d (stepT size d ts x) := by
  unfold stepT
  split
  · refine ⟨fun t ht => ?_, fun t ht => ?_, fun i t u hi hu => ?_⟩
    · simp at ht; subst ht; simp; omega
    · simp at ht; subst ht; simp
    · simp at hu
  · rename_i t hl
    obtain ⟨us, rfl⟩ := List.getLast?_eq_some_iff.1 hl
    have ht := h.one t (by simp)
    have hta := h.alike t (by simp)
    obtain ⟨z, hz⟩ : ∃ z, t.getLast? = some z := by
      cases hh : t.getLast? with
      | none => rw [List.getLast?_eq_none_iff] at hh; subst hh; simp at ht
      | some z => exact ⟨z, rfl⟩
    have hzm : z ∈ t := List.mem_of_getLast? hz
    rw [hz]
    simp only [Option.map_some, ne_eq, Option.some.injEq]
    split
    · rename_i hc
      refine ⟨fun s hs2 => ?_, fun s hs2 => ?_, fun i s u hi hu => ?_⟩
      · rcases List.mem_append.1 hs2 with hs2 | hs2
        · exact h.one s hs2
        · simp at hs2; subst hs2; simp; omega
      · rcases List.mem_append.1 hs2 with hs2 | hs2
        · exact h.alike s hs2
        · simp at hs2; subst hs2; simp
      · rcases Nat.lt_or_ge (i + 1) (us ++ [t]).length with hlt | hge
        · rw [List.getElem?_append_left (by omega)] at hi
          rw [List.getElem?_append_left hlt] at hu
          exact h.next i s u hi hu
        · have hul := (List.getElem?_eq_some_iff.1 hu).1
          simp at hul hge
          have : i = us.length := by omega
          subst this
          simp at hi hu
          subst hi hu
          rcases hc with hc | hc
          · exact .inl hc
          · right
            intro a ha y hy
            simp at hy
            subst hy
            rw [hta a ha z hzm]
            exact hc
    · rename_i hc
      have hc1 : t.length ≠ size := fun e => hc (.inl e)
      have hc2 : pre d z.2 = pre d x.2 := Decidable.byContradiction fun e => hc (.inr e)
      rw [List.dropLast_concat]
      refine ⟨fun s hs2 => ?_, fun s hs2 => ?_, fun i s u hi hu => ?_⟩
      · rcases List.mem_append.1 hs2 with hs2 | hs2
        · exact h.one s (by simp [hs2])
        · simp at hs2; subst hs2; simp; omega
      · rcases List.mem_append.1 hs2 with hs2 | hs2
        · exact h.alike s (by simp [hs2])
        · simp only [List.mem_singleton] at hs2
          subst hs2
          have key : ∀ a ∈ t ++ [x], pre d a.2 = pre d x.2 := fun a ha => by
            rcases List.mem_append.1 ha with ha | ha
            · rw [hta a ha z hzm, hc2]
            · simp at ha; rw [ha]
          intro a ha c hc3
          rw [key a ha, key c hc3]
      · rcases Nat.lt_or_ge (i + 1) us.length with hlt | hge
        · rw [List.getElem?_append_left (by omega)] at hi
          rw [List.getElem?_append_left hlt] at hu
          exact h.next i s u (by rw [List.getElem?_append_left (by omega)]; exact hi) (by rw [List.getElem?_append_left hlt]; exact hu)
        · have hul := (List.getElem?_eq_some_iff.1 hu).1
          simp at hul
          have hi1 : i + 1 = us.length := by omega
          rw [List.getElem?_append_left (by omega)] at hi
          rw [hi1, List.getElem?_append_right (Nat.le_refl _)] at hu
          simp at hu
          subst hu
          have hn := h.next i s t (by rw [List.getElem?_append_left (by omega)]; exact hi) (by rw [hi1, List.getElem?_append_right (Nat.le_refl _)]; simp)
          rcases hn with hn | hn
          · exact .inl hn
          · right
            intro a ha y hy
            rcases List.mem_append.1 hy with hy | hy
            · exact hn a ha y hy
            · simp at hy
              subst hy
              rw [← hc2]
              exact hn a ha z hzm
theorem fill_all {size d : Nat} (hs : 1 ≤ size) (b : List Ltr) : FillOk size d (fillT size d b) ∧ (fillT size d b).flatten = b := by
  have key : ∀ (b : List Ltr) (ts : List (List Ltr)), FillOk size d ts → FillOk size d (b.foldl (stepT size d) ts) ∧ (b.foldl (stepT size d) ts).flatten = ts.flatten ++ b := by
    intro b
    induction b with
    | nil => intro ts h; exact ⟨h, by simp⟩
    | cons x b ih =>
      intro ts h
      obtain ⟨h1, h2⟩ := ih _ (fillOk_step hs h x)
      refine ⟨h1, ?_⟩
      rw [List.foldl_cons, h2, stepT_flat]; simp
  have := key b [] (fillOk_nil _ _)
  simpa [fillT] using this

end Go.Proofs.YtfhnjpjlpddpmaaDoor
