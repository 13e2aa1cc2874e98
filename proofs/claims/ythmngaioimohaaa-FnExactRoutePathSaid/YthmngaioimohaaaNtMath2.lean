
/- Plain lists: rules that send alike; added and removed rules. No program in sight. -/
import Derived.Test.YthmngaioimohaaaNtMath
namespace Go.Proofs.Ythmngaioimohaaa
open Go.RowKit
set_option linter.unusedVariables false

/-- Does a rule have a longer prefix that begins with p? -/
def longer (rs : List Rul) (p : ByteArray) : Bool := rs.any (fun r => decide (p.size < r.1.size) && begins r.1 p)
theorem longer_false {rs : List Rul} {p : ByteArray} : longer rs p = false ↔ ∀ r ∈ rs, p.size < r.1.size → begins r.1 p = false := by
  simp only [longer, List.any_eq_false, Bool.and_eq_true, decide_eq_true_eq, not_and, Bool.not_eq_true]
theorem longer_at {rs : List Rul} {p : ByteArray} {k : Nat} {r : Rul} (h : rs[k]? = some r) (h1 : p.size < r.1.size) (h2 : begins r.1 p = true) : longer rs p = true := by
  rw [longer, List.any_eq_true]; exact ⟨r, List.mem_of_getElem? h, by simp [h1, h2]⟩
theorem longer_end {rs : List Rul} {p : ByteArray} (h : ∀ j, j < rs.length → ∀ r, rs[j]? = some r → ¬ (p.size < r.1.size ∧ begins r.1 p = true)) : longer rs p = false := by
  rw [longer_false]
  intro r hr hlt
  obtain ⟨j, hj⟩ := List.getElem?_of_mem hr
  have := h j (List.getElem?_eq_some_iff.1 hj).1 r hj
  cases hb : begins r.1 p
  · rfl
  · exact absurd ⟨hlt, hb⟩ this
theorem longer_true {rs : List Rul} {p : ByteArray} (h : longer rs p = true) : ∃ r ∈ rs, p.size < r.1.size ∧ begins r.1 p = true := by
  rw [longer, List.any_eq_true] at h
  obtain ⟨r, hr, h⟩ := h
  exact ⟨r, hr, by simpa using h⟩

theorem foldl_congr' {α β : Type} {f g : β → α → β} : ∀ {l : List α} (b : β), (∀ b, ∀ x ∈ l, f b x = g b x) → l.foldl f b = l.foldl g b
  | [], _, _ => rfl
  | x :: l, b, h => by rw [List.foldl_cons, List.foldl_cons, h b x (by simp)]; exact foldl_congr' _ (fun b y hy => h b y (by simp [hy]))
/-- No longer rule: all codes that begin with p are sent as p. -/
theorem best_leaf {rs : List Rul} {p c : ByteArray} (h : longer rs p = false) (hc : begins c p = true) : bestR rs c = bestR rs p := by
  rw [longer_false] at h
  refine foldl_congr' _ fun b r hr => ?_
  have e : begins c r.1 = begins p r.1 := by
    rw [Bool.eq_iff_iff]
    constructor
    · intro hb
      rcases Nat.lt_or_ge p.size r.1.size with h1 | h1
      · have := begins_two hb hc (by omega)
        rw [h r hr h1] at this; cases this
      · exact begins_two hc hb h1
    · exact fun hb => begins_trans hc hb
  unfold better
  rw [e]
theorem next_leaf {rs : List Rul} {p c : ByteArray} (h : longer rs p = false) (hc : begins c p = true) : nextR rs c = nextR rs p := by rw [nextR, nextR, best_leaf h hc]

/-- A digit. -/
def dgt (d : Nat) : ByteArray := ⟨#[(48 + d).toUInt8]⟩
theorem dl_app (a b : ByteArray) : dl (a ++ b) = dl a ++ dl b := by simp [dl]
theorem dl_dgt (d : Nat) : dl (dgt d) = [(48 + d).toUInt8] := rfl
theorem size_app (a b : ByteArray) : (a ++ b).size = a.size + b.size := by simp
theorem size_dgt (d : Nat) : (dgt d).size = 1 := rfl
theorem digB_dgt {d : Nat} (h : d < 10) : digB (48 + d).toUInt8 = true := by
  rw [digB_true, UInt8.toNat_ofNat']
  omega
theorem preB_app {p : ByteArray} {d : Nat} (h : preB p = true) (hp : p.size < 7) (hd : d < 10) : preB (p ++ dgt d) = true := by
  obtain ⟨h1, h2⟩ := preB_parts h
  refine preB_mk (by rw [size_app, size_dgt]; omega) ?_
  unfold digs at h2 ⊢
  rw [dl_app, List.all_append, h2, dl_dgt, List.all_cons, digB_dgt hd]; rfl
theorem begins_app (p q : ByteArray) : begins (p ++ q) p = true := begins_true.2 (by rw [dl_app]; exact List.prefix_append _ _)
/-- A longer code has a next digit. -/
theorem begins_next {p c : ByteArray} (hc : codeB c = true) (hp : p.size < 7) (h : begins c p = true) : ∃ d, d < 10 ∧ begins c (p ++ dgt d) = true := by
  obtain ⟨h1, h2⟩ := codeB_parts hc
  obtain ⟨t, ht⟩ := begins_true.1 h
  cases t with
  | nil =>
    have := congrArg List.length ht
    rw [List.append_nil, dl_length, dl_length] at this
    omega
  | cons u t =>
    unfold digs at h2
    rw [← ht, List.all_append, List.all_cons] at h2
    simp only [Bool.and_eq_true] at h2
    have hu := digB_true.1 h2.2.1
    refine ⟨u.toNat - 48, by omega, begins_true.2 ?_⟩
    rw [dl_app, dl_dgt, ← ht]
    have e : (48 + (u.toNat - 48)).toUInt8 = u := by
      have : 48 + (u.toNat - 48) = u.toNat := by omega
      rw [this]; simp
    rw [e]
    exact ⟨t, by simp⟩

/-- The first code that begins with a prefix. -/
def zeros (n : Nat) : ByteArray := ⟨(List.replicate n 48).toArray⟩
def firstW (p : ByteArray) : ByteArray := p ++ zeros (7 - p.size)
theorem dl_zeros (n : Nat) : dl (zeros n) = List.replicate n 48 := by simp [dl, zeros]
theorem firstW_code {p : ByteArray} (h : preB p = true) : codeB (firstW p) = true := by
  obtain ⟨h1, h2⟩ := preB_parts h
  refine codeB_mk ?_ ?_
  · rw [firstW, size_app]
    have : (zeros (7 - p.size)).size = 7 - p.size := by rw [← dl_length, dl_zeros]; simp
    omega
  · unfold digs at h2 ⊢
    rw [firstW, dl_app, List.all_append, h2, dl_zeros, Bool.true_and, List.all_eq_true]
    intro x hx
    rw [List.eq_of_mem_replicate hx]; rfl
theorem firstW_begins (p : ByteArray) : begins (firstW p) p = true := begins_app _ _

/-- Do rules send all codes alike that begin with p? Asked as the program asks it. -/
def sameP (a b : List Rul) : Nat → ByteArray → Bool
  | 0, p => decide (nextR a p = nextR b p)
  | f + 1, p => if longer a p = false ∧ longer b p = false then decide (nextR a p = nextR b p) else (List.range 10).all (fun d => sameP a b f (p ++ dgt d))
theorem longer_size {rs : List Rul} {p : ByteArray} (h : Rv rs) (hl : longer rs p = true) : p.size < 7 := by
  obtain ⟨r, hr, h1, _⟩ := longer_true hl
  have := (preB_parts (h.pre r hr)).1
  omega
theorem sameP_iff {a b : List Rul} (ha : Rv a) (hb : Rv b) : ∀ (f : Nat) (p : ByteArray), preB p = true → p.size + f = 7 → (sameP a b f p = true ↔ ∀ c, codeB c = true → begins c p = true → nextR a c = nextR b c) := by
  have leaf : ∀ p, preB p = true → longer a p = false → longer b p = false → (decide (nextR a p = nextR b p) = true ↔ ∀ c, codeB c = true → begins c p = true → nextR a c = nextR b c) := by
    intro p hp h1 h2
    rw [decide_eq_true_eq]
    constructor
    · intro h c _ hc
      rw [next_leaf h1 hc, next_leaf h2 hc, h]
    · intro h
      have := h _ (firstW_code hp) (firstW_begins p)
      rwa [next_leaf h1 (firstW_begins p), next_leaf h2 (firstW_begins p)] at this
  intro f
  induction f with
  | zero =>
    intro p hp hs
    have n1 : longer a p = false := by
      cases h : longer a p
      · rfl
      · have := longer_size ha h; omega
    have n2 : longer b p = false := by
      cases h : longer b p
      · rfl
      · have := longer_size hb h; omega
    rw [sameP]
    exact leaf p hp n1 n2
  | succ f ih =>
    intro p hp hs
    rw [sameP]
    by_cases hl : longer a p = false ∧ longer b p = false
    · rw [if_pos hl]; exact leaf p hp hl.1 hl.2
    · rw [if_neg hl]
      have hp7 : p.size < 7 := by omega
      rw [List.all_eq_true]
      constructor
      · intro h c hc hb2
        obtain ⟨d, hd, hbd⟩ := begins_next hc hp7 hb2
        exact (ih _ (preB_app hp hp7 hd) (by rw [size_app, size_dgt]; omega)).1 (h d (by simp [hd])) c hc hbd
      · intro h d hd
        rw [List.mem_range] at hd
        exact (ih _ (preB_app hp hp7 hd) (by rw [size_app, size_dgt]; omega)).2 fun c hc hb2 => h c hc (begins_trans hb2 (begins_app _ _))
/-- The same rules. -/
def emp : ByteArray := ⟨#[]⟩
def sameR (a b : List Rul) : Bool := rv a && (rv b && sameP a b 7 emp)
theorem begins_emp (c : ByteArray) : begins c emp = true := begins_true.2 (List.nil_prefix)
theorem preB_emp : preB emp = true := by decide
theorem sameR_iff {a b : List Rul} (ha : rv a = true) (hb : rv b = true) : sameR a b = true ↔ ∀ c, codeB c = true → nextR a c = nextR b c := by
  simp only [sameR, ha, hb, Bool.true_and]
  rw [sameP_iff (rv_parts ha) (rv_parts hb) 7 emp preB_emp rfl]
  exact ⟨fun h c hc => h c hc (begins_emp c), fun h c hc _ => h c hc⟩
theorem sameR_comm (a b : List Rul) : sameR a b = sameR b a := by
  cases ha : rv a
  · simp [sameR, ha]
  · cases hb : rv b
    · simp [sameR, hb]
    · rw [Bool.eq_iff_iff, sameR_iff ha hb, sameR_iff hb ha]
      exact ⟨fun h c hc => (h c hc).symm, fun h c hc => (h c hc).symm⟩
theorem sameR_self {a : List Rul} (ha : rv a = true) : sameR a a = true := (sameR_iff ha ha).2 fun _ _ => rfl
theorem sameR_shrink {a b : List Rul} (ha : rv a = true) : sameR (shrink a) b = sameR a b := by
  cases hb : rv b
  · simp [sameR, hb]
  · rw [Bool.eq_iff_iff, sameR_iff (shrink_rv ha) hb, sameR_iff ha hb]
    simp only [shrink_next ha]

/-- Shrinking again changes nothing. -/
theorem shrink_again {rs : List Rul} (h : rv rs = true) : shrink (shrink rs) = shrink rs := by
  have hp := rv_parts h
  have hS := shrink_rv h
  have hps := rv_parts hS
  have hk : ∀ i q, (shrink rs)[i]? = some q → keeps (shrink rs) i q = true := by
    intro i q hi
    have hqS := List.mem_of_getElem? hi
    obtain ⟨j, hj, hkj⟩ := (shrink_mem h).1 hqS
    rw [keeps, decide_eq_true_eq] at hkj ⊢
    intro hn
    cases hb : bestR (dropAt (shrink rs) i) q.1 with
    | none => rw [nextR, hb] at hn; cases hn
    | some r' =>
      rw [nextR, hb] at hn
      injection hn with hn
      have hn : r'.2 = q.2 := hn
      obtain ⟨a1, a2, a3⟩ := bestR_some hb
      have a4 := dropAt_not hps hi r' a1
      have hr'S := dropAt_mem a1
      have hr'rs := (shrink_sub h).subset hr'S
      cases hb2 : bestR (dropAt rs j) q.1 with
      | none =>
        have := bestR_none.1 hb2 r' (mem_dropAt hj hr'rs (fun e => a4 (by rw [e])))
        rw [a2] at this; cases this
      | some r2 =>
        obtain ⟨b1, b2, b3⟩ := bestR_some hb2
        have b4 := dropAt_not hp hj r2 b1
        have hle := b3 r' (mem_dropAt hj hr'rs (fun e => a4 (by rw [e]))) a2
        obtain ⟨q3, c1, c2, c3, c4⟩ := shrink_for h _ r2 (dropAt_mem b1) (Nat.le_refl _)
        have d1 := c4 r' hr'S (begins_two b2 a2 hle)
        have hlt : r2.1.size < q.1.size := by
          have := begins_le b2
          rcases Nat.lt_or_ge r2.1.size q.1.size with h4 | h4
          · exact h4
          · exact absurd (begins_same (begins_self q.1) b2 (by omega)).symm b4
        have hq3q : q3 ≠ q := fun e => by
          have := begins_le c3
          rw [e] at this; omega
        have d2 := a3 q3 (mem_dropAt hi c1 hq3q) (begins_trans b2 c3)
        have e1 : r' = q3 := hps.uniq hr'S c1 (begins_same a2 (begins_trans b2 c3) (by omega))
        apply hkj
        rw [nextR, hb2]
        simp only [Option.map_some, Option.some.injEq]
        rw [← c2, ← e1, hn]
  have key : ∀ k, k ≤ (shrink rs).length → shrinkTo (shrink rs) k = (shrink rs).take k := by
    intro k
    induction k with
    | zero => intro _; rfl
    | succ k ih =>
      intro hkl
      have hi : (shrink rs)[k]? = some ((shrink rs)[k]'(by omega)) := List.getElem?_eq_getElem (by omega)
      rw [shrinkTo_yes hi (hk k _ hi), ih (by omega), take_snoc hi]
  have e : shrink (shrink rs) = shrinkTo (shrink rs) (shrink rs).length := by
    conv => lhs; unfold shrink
    rw [if_pos (by exact hS)]
    rfl
  rw [e, key _ (Nat.le_refl _), List.take_length]

/-- The place of a rule by its prefix. -/
def idxR (rs : List Rul) (p : ByteArray) : Option Nat := rs.findIdx? (fun r => decide (r.1 = p))
theorem idxR_at {rs : List Rul} {p : ByteArray} {k : Nat} {r : Rul} (hk : rs[k]? = some r) (he : r.1 = p) (hb : ∀ j, j < k → ∀ q, rs[j]? = some q → q.1 ≠ p) : idxR rs p = some k := by
  obtain ⟨hkl, hke⟩ := List.getElem?_eq_some_iff.1 hk
  rw [idxR, List.findIdx?_eq_some_iff_getElem]
  refine ⟨hkl, by simp [hke, he], fun j hj => ?_⟩
  have := hb j hj _ (List.getElem?_eq_getElem (by omega))
  simp [this]
theorem idxR_none {rs : List Rul} {p : ByteArray} (hb : ∀ j, j < rs.length → ∀ q, rs[j]? = some q → q.1 ≠ p) : idxR rs p = none := by
  rw [idxR, List.findIdx?_eq_none_iff]
  intro q hq
  obtain ⟨j, hj⟩ := List.getElem?_of_mem hq
  have := hb j (List.getElem?_eq_some_iff.1 hj).1 q hj
  simp [this]
theorem idxR_some {rs : List Rul} {p : ByteArray} {k : Nat} (h : idxR rs p = some k) : ∃ r, rs[k]? = some r ∧ r.1 = p ∧ k < rs.length := by
  rw [idxR, List.findIdx?_eq_some_iff_getElem] at h
  obtain ⟨hk, he, _⟩ := h
  exact ⟨rs[k], List.getElem?_eq_getElem hk, by simpa using he, hk⟩
theorem idxR_no {rs : List Rul} {p : ByteArray} (h : idxR rs p = none) : ∀ r ∈ rs, r.1 ≠ p := by
  rw [idxR, List.findIdx?_eq_none_iff] at h
  intro r hr he
  have := h r hr
  simp [he] at this
/-- With a rule added or changed; valid or not. -/
def putR (rs : List Rul) (p n : ByteArray) : List Rul := match idxR rs p with
  | some k => rs.set k (p, n)
  | none => rs ++ [(p, n)]
def addR (rs : List Rul) (p n : ByteArray) : Option (List Rul) := if rv rs && rv (putR rs p n) then some (putR rs p n) else none
def remR (rs : List Rul) (p : ByteArray) : Option (List Rul) := if rv rs then (idxR rs p).map (dropAt rs) else none
theorem putR_len (rs : List Rul) (p n : ByteArray) : (putR rs p n).length = rs.length ∨ (putR rs p n).length = rs.length + 1 := by
  unfold putR
  split <;> simp
theorem idxR_put (rs : List Rul) (p n : ByteArray) : ∃ k, idxR (putR rs p n) p = some k ∧ (putR rs p n)[k]? = some (p, n) := by
  unfold putR
  cases hi : idxR rs p with
  | some k =>
    simp only
    obtain ⟨r, hr, he, hk⟩ := idxR_some hi
    refine ⟨k, idxR_at (r := (p, n)) (by rw [List.getElem?_set_self hk]) rfl (fun j hj q hq => ?_), by rw [List.getElem?_set_self hk]⟩
    rw [List.getElem?_set_ne (by omega)] at hq
    rw [idxR, List.findIdx?_eq_some_iff_getElem] at hi
    have := hi.2.2 j hj
    obtain ⟨h1, h2⟩ := List.getElem?_eq_some_iff.1 hq
    rw [h2] at this
    simpa using this
  | none =>
    simp only
    refine ⟨rs.length, idxR_at (r := (p, n)) (by simp) rfl (fun j hj q hq => ?_), by simp⟩
    rw [List.getElem?_append_left hj] at hq
    exact idxR_no hi q (List.mem_of_getElem? hq)
/-- Adding it again changes nothing. -/
theorem putR_again (rs : List Rul) (p n : ByteArray) : putR (putR rs p n) p n = putR rs p n := by
  obtain ⟨k, h1, h2⟩ := idxR_put rs p n
  generalize putR rs p n = q at *
  conv => lhs; unfold putR
  rw [h1]
  simp only
  obtain ⟨hk, he⟩ := List.getElem?_eq_some_iff.1 h2
  apply List.ext_getElem?
  intro i
  by_cases hi : k = i
  · subst hi; rw [List.getElem?_set_self hk, h2]
  · rw [List.getElem?_set_ne hi]
theorem foldl_set {α β : Type} (f : β → α → β) : ∀ (l : List α) (k : Nat) (x y : α) (b : β), l[k]? = some x → (∀ b, f b x = f b y) → (l.set k y).foldl f b = l.foldl f b
  | [], k, x, y, b, h, _ => by simp at h
  | z :: l, 0, x, y, b, h, hf => by
    simp only [List.getElem?_cons_zero, Option.some.injEq] at h
    subst h
    rw [List.set_cons_zero, List.foldl_cons, List.foldl_cons, hf]
  | z :: l, k + 1, x, y, b, h, hf => by
    rw [List.set_cons_succ, List.foldl_cons, List.foldl_cons]
    exact foldl_set f l k x y _ (by simpa using h) hf
/-- A rule that a code does not begin with does not matter for it. -/
theorem put_next {rs : List Rul} {p n c : ByteArray} (h : begins c p = false) : nextR (putR rs p n) c = nextR rs c := by
  unfold putR nextR
  congr 1
  cases hi : idxR rs p with
  | some k =>
    simp only
    obtain ⟨r, hr, he, hk⟩ := idxR_some hi
    exact foldl_set _ _ _ r _ _ hr fun b => by rw [better_no (by rw [he]; exact h), better_no h]
  | none => simp only; rw [bestR_app, better_no h]

/-- Valid rules in another order send alike. -/
theorem next_perm {a b : List Rul} (ha : rv a = true) (hp : a.Perm b) : rv b = true ∧ ∀ c, nextR b c = nextR a c := by
  have h1 := rv_parts ha
  have h2 : Rv b := ⟨by rw [← hp.length_eq]; exact h1.len, fun r hr => h1.pre r (hp.mem_iff.2 hr), fun r hr => h1.name r (hp.mem_iff.2 hr), (hp.map _).nodup_iff.1 h1.nodup⟩
  refine ⟨rv_mk h2, fun c => ?_⟩
  cases hb : bestR a c with
  | none =>
    have : bestR b c = none := bestR_none.2 fun q hq => bestR_none.1 hb q (hp.mem_iff.2 hq)
    rw [nextR, nextR, hb, this]
  | some r =>
    obtain ⟨a1, a2, a3⟩ := bestR_some hb
    have : bestR b c = some r := bestR_eq (fun a ha b hb he => h2.uniq ha hb he) (hp.mem_iff.1 a1) a2 fun q hq => a3 q (hp.mem_iff.2 hq)
    rw [nextR, nextR, hb, this]
/-- A removed rule, added again. -/
theorem rem_add {rs : List Rul} (h : rv rs = true) {k : Nat} {r : Rul} (hk : rs[k]? = some r) : rv (dropAt rs k) = true ∧ (dropAt rs k).length + 1 = rs.length ∧ addR (dropAt rs k) r.1 r.2 = some (dropAt rs k ++ [r]) ∧ sameR (dropAt rs k ++ [r]) rs = true := by
  have hp := rv_parts h
  have hperm : rs.Perm (dropAt rs k ++ [r]) := by
    conv => lhs; rw [dropAt_split hk]
    rw [dropAt, List.append_assoc]
    exact List.Perm.append_left _ (List.perm_append_singleton r _).symm
  obtain ⟨h2, h3⟩ := next_perm h hperm
  have hsub : (dropAt rs k).Sublist rs := by
    conv => rhs; rw [dropAt_split hk]
    exact (List.Sublist.refl _).append (List.sublist_cons_self _ _)
  have h1 := rv_sublist h hsub
  have hidx : idxR (dropAt rs k) r.1 = none := idxR_none fun j hj q hq => dropAt_not hp hk q (List.mem_of_getElem? hq)
  have hput : putR (dropAt rs k) r.1 r.2 = dropAt rs k ++ [r] := by simp [putR, hidx]
  refine ⟨h1, by have := hperm.length_eq; simp at this; omega, ?_, (sameR_iff h2 h).2 fun c _ => h3 c⟩
  rw [addR, hput, h1, h2]; rfl

end Go.Proofs.Ythmngaioimohaaa
