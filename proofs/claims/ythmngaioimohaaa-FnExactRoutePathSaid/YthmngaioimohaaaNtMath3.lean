
/- Plain lists: networks, and the paths of letters. No program in sight. -/
import Derived.Test.YthmngaioimohaaaNtMath2
namespace Go.Proofs.Ythmngaioimohaaa
open Go.RowKit
set_option linter.unusedVariables false

/-- An office: its name and its rules. -/
abbrev Off := ByteArray × List Rul
def here : ByteArray := ⟨#[104, 101, 114, 101]⟩
def offI (net : List Off) (s : ByteArray) : Option Nat := net.findIdx? (fun o => decide (o.1 = s))
theorem offI_at {rs : List Off} {p : ByteArray} {k : Nat} {r : Off} (hk : rs[k]? = some r) (he : r.1 = p) (hb : ∀ j, j < k → ∀ q, rs[j]? = some q → q.1 ≠ p) : offI rs p = some k := by
  obtain ⟨hkl, hke⟩ := List.getElem?_eq_some_iff.1 hk
  rw [offI, List.findIdx?_eq_some_iff_getElem]
  refine ⟨hkl, by simp [hke, he], fun j hj => ?_⟩
  have := hb j hj _ (List.getElem?_eq_getElem (by omega))
  simp [this]
theorem offI_none {rs : List Off} {p : ByteArray} (hb : ∀ j, j < rs.length → ∀ q, rs[j]? = some q → q.1 ≠ p) : offI rs p = none := by
  rw [offI, List.findIdx?_eq_none_iff]
  intro q hq
  obtain ⟨j, hj⟩ := List.getElem?_of_mem hq
  have := hb j (List.getElem?_eq_some_iff.1 hj).1 q hj
  simp [this]
theorem offI_some {rs : List Off} {p : ByteArray} {k : Nat} (h : offI rs p = some k) : ∃ r, rs[k]? = some r ∧ r.1 = p ∧ k < rs.length ∧ ∀ j, j < k → ∀ q, rs[j]? = some q → q.1 ≠ p := by
  rw [offI, List.findIdx?_eq_some_iff_getElem] at h
  obtain ⟨hk, he, hb⟩ := h
  refine ⟨rs[k], List.getElem?_eq_getElem hk, by simpa using he, hk, fun j hj q hq => ?_⟩
  obtain ⟨h1, h2⟩ := List.getElem?_eq_some_iff.1 hq
  have := hb j hj
  rw [h2] at this
  simpa using this
theorem offI_no {rs : List Off} {p : ByteArray} (h : offI rs p = none) : ∀ r ∈ rs, r.1 ≠ p := by
  rw [offI, List.findIdx?_eq_none_iff] at h
  intro r hr he
  have := h r hr
  simp [he] at this

/-- Is office o, the k-th, as a network asks? -/
def okO (net : List Off) (o : Off) : Bool := nameB o.1 && (decide (o.1 ≠ here) && (rv o.2 && o.2.all (fun r => decide (r.2 = here) || (offI net r.2).isSome)))
def nv (net : List Off) : Bool := inB net.length 1 8 && (net.all (okO net) && decide ((net.map (·.1)).Nodup))
structure Nv (net : List Off) : Prop where
  len : 1 ≤ net.length ∧ net.length ≤ 8
  name : ∀ o ∈ net, nameB o.1 = true
  ne : ∀ o ∈ net, o.1 ≠ here
  rules : ∀ o ∈ net, rv o.2 = true
  next : ∀ o ∈ net, ∀ r ∈ o.2, r.2 = here ∨ ∃ j, offI net r.2 = some j
  nodup : (net.map (·.1)).Nodup
theorem okO_iff {net : List Off} {o : Off} : okO net o = true ↔ nameB o.1 = true ∧ o.1 ≠ here ∧ rv o.2 = true ∧ ∀ r ∈ o.2, r.2 = here ∨ ∃ j, offI net r.2 = some j := by
  simp only [okO, Bool.and_eq_true, decide_eq_true_eq, List.all_eq_true, Bool.or_eq_true, Option.isSome_iff_exists]
theorem nv_parts {net : List Off} (h : nv net = true) : Nv net := by
  simp only [nv, Bool.and_eq_true, List.all_eq_true, decide_eq_true_eq, inB_true, okO_iff] at h
  obtain ⟨h1, h2, h3⟩ := h
  exact ⟨by omega, fun o ho => (h2 o ho).1, fun o ho => (h2 o ho).2.1, fun o ho => (h2 o ho).2.2.1, fun o ho => (h2 o ho).2.2.2, h3⟩
theorem nv_mk {net : List Off} (h : Nv net) : nv net = true := by
  simp only [nv, Bool.and_eq_true, List.all_eq_true, decide_eq_true_eq, inB_true, okO_iff]
  exact ⟨by have := h.len; omega, fun o ho => ⟨h.name o ho, h.ne o ho, h.rules o ho, h.next o ho⟩, h.nodup⟩
theorem nv_no {net : List Off} {k : Nat} {o : Off} (hk : net[k]? = some o) (h : okO net o = false) : nv net = false := by
  simp only [nv, all_not (p := okO net) hk h, Bool.false_and, Bool.and_false]
theorem nv_len {net : List Off} (h : inB net.length 1 8 = false) : nv net = false := by simp [nv, h]
theorem nv_dup {b : List Off} {i k : Nat} {x y : Off} (hik : i < k) (hi : b[i]? = some x) (hk : b[k]? = some y) (h : x.1 = y.1) : nv b = false := by
  have : ¬ (b.map (·.1)).Nodup := fun hn => by
    rw [List.Nodup, List.pairwise_iff_getElem] at hn
    obtain ⟨h1, h2⟩ := List.getElem?_eq_some_iff.1 hi
    obtain ⟨h3, h4⟩ := List.getElem?_eq_some_iff.1 hk
    exact hn i k (by simpa using h1) (by simpa using h3) hik (by simp [h2, h4, h])
  rw [nv, decide_eq_false this, Bool.and_false, Bool.and_false]
/-- Good so far: the first k offices. -/
def NvTo (net : List Off) (k : Nat) : Prop := (∀ o ∈ net.take k, okO net o = true) ∧ ((net.take k).map (·.1)).Nodup
theorem nvTo_zero (b : List Off) : NvTo b 0 := ⟨by simp, by simp⟩
theorem nvTo_step {b : List Off} {k : Nat} {x : Off} (h : NvTo b k) (hx : b[k]? = some x) (h1 : okO b x = true) (h3 : ∀ j, j < k → ∀ y, b[j]? = some y → y.1 ≠ x.1) : NvTo b (k + 1) := by
  refine ⟨fun y hy => ?_, ?_⟩
  · rw [take_snoc hx] at hy
    rcases List.mem_append.1 hy with hy | hy
    · exact h.1 y hy
    · simp at hy; subst hy; exact h1
  · rw [take_snoc hx, List.map_append, List.nodup_append]
    refine ⟨h.2, by simp, fun a ha c hc => ?_⟩
    obtain ⟨y, hy, rfl⟩ := List.mem_map.1 ha
    simp at hc
    subst hc
    obtain ⟨j, hj⟩ := List.getElem?_of_mem hy
    rw [List.getElem?_take] at hj
    split at hj
    · exact h3 j (by assumption) y hj
    · cases hj
theorem nvTo_end {b : List Off} (h : NvTo b b.length) : nv b = inB b.length 1 8 := by
  unfold NvTo at h
  rw [List.take_length] at h
  have h1 : b.all (okO b) = true := List.all_eq_true.2 h.1
  rw [nv, h1, decide_eq_true h.2]; simp
theorem Nv.uniq {net : List Off} (h : Nv net) {i j : Nat} {x y : Off} (hi : net[i]? = some x) (hj : net[j]? = some y) (he : x.1 = y.1) : i = j := by
  rcases Nat.lt_trichotomy i j with h1 | h1 | h1
  · have := nv_dup h1 hi hj he; rw [nv_mk h] at this; cases this
  · exact h1
  · have := nv_dup h1 hj hi he.symm; rw [nv_mk h] at this; cases this
theorem Nv.idx {net : List Off} (h : Nv net) {i : Nat} {x : Off} (hi : net[i]? = some x) : offI net x.1 = some i :=
  offI_at hi rfl fun j hj q hq he => by have := h.uniq hq hi he; omega

/-- Where a letter goes from office i: nowhere, home, or to an office. -/
def nxtN (net : List Off) (c : ByteArray) (i : Nat) : Option (Option Nat) :=
  match net[i]? with
  | none => none
  | some o => match nextR o.2 c with
    | none => none
    | some m => if m = here then some none else match offI net m with
      | none => none
      | some j => some (some j)
theorem nxt_lost {net : List Off} {c : ByteArray} {i : Nat} {o : Off} (hi : net[i]? = some o) (h : nextR o.2 c = none) : nxtN net c i = none := by simp [nxtN, hi, h]
theorem nxt_home {net : List Off} {c : ByteArray} {i : Nat} {o : Off} (hi : net[i]? = some o) (h : nextR o.2 c = some here) : nxtN net c i = some none := by simp [nxtN, hi, h]
theorem nxt_to {net : List Off} {c m : ByteArray} {i j : Nat} {o : Off} (hi : net[i]? = some o) (h : nextR o.2 c = some m) (hm : m ≠ here) (hj : offI net m = some j) : nxtN net c i = some (some j) := by simp [nxtN, hi, h, hm, hj]
/-- The next office of a valid network is there. -/
theorem nxt_some {net : List Off} (hn : Nv net) {c m : ByteArray} {i : Nat} {o : Off} (hi : net[i]? = some o) (h : nextR o.2 c = some m) (hm : m ≠ here) : ∃ j, offI net m = some j := by
  cases hb : bestR o.2 c with
  | none => rw [nextR, hb] at h; cases h
  | some r =>
    rw [nextR, hb] at h
    injection h with h
    have h : r.2 = m := h
    subst h
    rcases hn.next o (List.mem_of_getElem? hi) r (bestR_some hb).1 with h1 | h1
    · exact absurd h1 hm
    · exact h1

/-- The offices through which a letter goes, and how it ends: 0 at home, 1 lost, 2 in a loop. -/
def routeI (nx : Nat → Option (Option Nat)) : Nat → List Nat → Nat → List Nat × Int
  | 0, done, cur => (done ++ [cur], 2)
  | f + 1, done, cur => match nx cur with
    | none => (done ++ [cur], 1)
    | some none => (done ++ [cur], 0)
    | some (some j) => if j ∈ done ++ [cur] then (done ++ [cur] ++ [j], 2) else routeI nx f (done ++ [cur]) j
theorem route_lost {nx : Nat → Option (Option Nat)} {f : Nat} {done : List Nat} {cur : Nat} (h : nx cur = none) : routeI nx (f + 1) done cur = (done ++ [cur], 1) := by simp [routeI, h]
theorem route_home {nx : Nat → Option (Option Nat)} {f : Nat} {done : List Nat} {cur : Nat} (h : nx cur = some none) : routeI nx (f + 1) done cur = (done ++ [cur], 0) := by simp [routeI, h]
theorem route_loop {nx : Nat → Option (Option Nat)} {f : Nat} {done : List Nat} {cur j : Nat} (h : nx cur = some (some j)) (hj : j ∈ done ++ [cur]) : routeI nx (f + 1) done cur = (done ++ [cur] ++ [j], 2) := by
  simp only [routeI, h]; rw [if_pos hj]
theorem route_go {nx : Nat → Option (Option Nat)} {f : Nat} {done : List Nat} {cur j : Nat} (h : nx cur = some (some j)) (hj : j ∉ done ++ [cur]) : routeI nx (f + 1) done cur = routeI nx f (done ++ [cur]) j := by
  simp only [routeI, h]; rw [if_neg hj]

/-- What a path is. -/
structure Routed (nx : Nat → Option (Option Nat)) (i : Nat) (P : List Nat) (e : Int) : Prop where
  first : P[0]? = some i
  step : ∀ k a b, P[k]? = some a → P[k + 1]? = some b → nx a = some (some b)
  before : P.dropLast.Nodup
  ending : (e = 1 ∧ P.Nodup ∧ ∃ a, P.getLast? = some a ∧ nx a = none) ∨ (e = 0 ∧ P.Nodup ∧ ∃ a, P.getLast? = some a ∧ nx a = some none) ∨ (e = 2 ∧ ∃ a, P.getLast? = some a ∧ a ∈ P.dropLast)
theorem snoc_at {α : Type} {l : List α} {x : α} {k : Nat} {y : α} (h : (l ++ [x])[k]? = some y) : l[k]? = some y ∨ (k = l.length ∧ y = x) := by
  rcases Nat.lt_or_ge k l.length with h1 | h1
  · rw [List.getElem?_append_left h1] at h; exact .inl h
  · rw [List.getElem?_append_right h1] at h
    have hl : k - l.length < 1 := by have := (List.getElem?_eq_some_iff.1 h).1; simpa using this
    have : k = l.length := by omega
    subst this
    simp at h; exact .inr ⟨rfl, h.symm⟩
theorem step_snoc {nx : Nat → Option (Option Nat)} {done : List Nat} {cur j : Nat} (hs : ∀ k a b, (done ++ [cur])[k]? = some a → (done ++ [cur])[k + 1]? = some b → nx a = some (some b)) (h : nx cur = some (some j)) :
    ∀ k a b, (done ++ [cur] ++ [j])[k]? = some a → (done ++ [cur] ++ [j])[k + 1]? = some b → nx a = some (some b) := by
  intro k a b ha hb
  rcases snoc_at hb with hb1 | ⟨hk, rfl⟩
  · rcases snoc_at ha with ha1 | ⟨hk2, rfl⟩
    · exact hs k a b ha1 hb1
    · have := (List.getElem?_eq_some_iff.1 hb1).1; omega
  · have hk2 : k = done.length := by simp at hk; omega
    subst hk2
    simp at ha
    subst ha; exact h
theorem route_ok {nx : Nat → Option (Option Nat)} {n : Nat} (hn : ∀ a j, nx a = some (some j) → j < n) : ∀ (f : Nat) (done : List Nat) (cur i : Nat), (done ++ [cur])[0]? = some i → (done ++ [cur]).Nodup → (∀ a ∈ done ++ [cur], a < n) →
    f + done.length = n → (∀ k a b, (done ++ [cur])[k]? = some a → (done ++ [cur])[k + 1]? = some b → nx a = some (some b)) →
    Routed nx i (routeI nx f done cur).1 (routeI nx f done cur).2 ∧ (routeI nx f done cur).1.length ≤ n + 1 ∧ ∀ a ∈ (routeI nx f done cur).1, a < n := by
  intro f
  induction f with
  | zero =>
    intro done cur i _ hnd hlt hf _
    exfalso
    have h1 : (done ++ [cur]).length ≤ (List.range n).length := hnd.length_le_of_subset fun a ha => List.mem_range.2 (hlt a ha)
    simp at h1
    omega
  | succ f ih =>
    intro done cur i h0 hnd hlt hf hs
    have hlen : (done ++ [cur]).length = done.length + 1 := by simp
    cases hx : nx cur with
    | none =>
      rw [route_lost hx]
      exact ⟨⟨h0, hs, hnd.sublist (List.dropLast_sublist _), .inl ⟨rfl, hnd, cur, by simp, hx⟩⟩, by simp only; omega, hlt⟩
    | some m =>
      cases m with
      | none =>
        rw [route_home hx]
        exact ⟨⟨h0, hs, hnd.sublist (List.dropLast_sublist _), .inr (.inl ⟨rfl, hnd, cur, by simp, hx⟩)⟩, by simp only; omega, hlt⟩
      | some j =>
        have h0' : (done ++ [cur] ++ [j])[0]? = some i := by rw [List.getElem?_append_left (by omega)]; exact h0
        have hlt' : ∀ a ∈ done ++ [cur] ++ [j], a < n := fun a ha => by
          rcases List.mem_append.1 ha with ha | ha
          · exact hlt a ha
          · simp at ha; subst ha; exact hn _ _ hx
        by_cases hj : j ∈ done ++ [cur]
        · rw [route_loop hx hj]
          refine ⟨⟨h0', step_snoc hs hx, by simp only [List.dropLast_concat]; exact hnd, .inr (.inr ⟨rfl, j, by simp, by simp only [List.dropLast_concat]; exact hj⟩)⟩, ?_, hlt'⟩
          simp only [List.length_append, List.length_cons, List.length_nil]; omega
        · rw [route_go hx hj]
          refine ih (done ++ [cur]) j i h0' ?_ hlt' (by rw [hlen]; omega) (step_snoc hs hx)
          rw [List.nodup_append]
          exact ⟨hnd, by simp, fun a ha b hb => by simp at hb; subst hb; exact fun e => hj (e ▸ ha)⟩

/-- A path is told by its beginning. -/
theorem routed_eq {nx : Nat → Option (Option Nat)} {i : Nat} {P Q : List Nat} {e d : Int} (h : Routed nx i P e) (g : Routed nx i Q d) : P = Q ∧ e = d := by
  have lenP : 0 < P.length := (List.getElem?_eq_some_iff.1 h.first).1
  have lenQ : 0 < Q.length := (List.getElem?_eq_some_iff.1 g.first).1
  have pt : ∀ k, k < P.length → k < Q.length → P[k]? = Q[k]? := by
    intro k
    induction k with
    | zero => intro _ _; rw [h.first, g.first]
    | succ k ih =>
      intro h1 h2
      have e1 := ih (by omega) (by omega)
      have a1 := List.getElem?_eq_getElem (l := P) (i := k) (by omega)
      have a2 := List.getElem?_eq_getElem h1
      have b2 := List.getElem?_eq_getElem h2
      have s1 := h.step k _ _ a1 a2
      have s2 := g.step k _ _ (e1 ▸ a1) b2
      rw [s1] at s2
      injection s2 with s2
      injection s2 with s2
      rw [a2, b2, s2]
  -- the shorter one is as long as the other
  have key : ∀ (P Q : List Nat) (e d : Int), Routed nx i P e → Routed nx i Q d → 0 < P.length → (∀ k, k < P.length → k < Q.length → P[k]? = Q[k]?) → ¬ P.length < Q.length := by
    intro P Q e d h g lenP pt hlt
    obtain ⟨a, ha⟩ : ∃ a, P.getLast? = some a := by
      rcases h.ending with ⟨_, _, a, ha, _⟩ | ⟨_, _, a, ha, _⟩ | ⟨_, a, ha, _⟩ <;> exact ⟨a, ha⟩
    have hak : P[P.length - 1]? = some a := by rw [← List.getLast?_eq_getElem?]; exact ha
    have hqk : Q[P.length - 1]? = some a := by rw [← pt _ (by omega) (by omega)]; exact hak
    have hq1 := List.getElem?_eq_getElem (l := Q) (i := P.length) hlt
    have hst := g.step (P.length - 1) a _ hqk (by rw [Nat.sub_add_cancel lenP]; exact hq1)
    rcases h.ending with ⟨_, _, b, hb, hn⟩ | ⟨_, _, b, hb, hn⟩ | ⟨_, b, hb, hm⟩
    · rw [ha] at hb; injection hb with hb; subst hb; rw [hn] at hst; cases hst
    · rw [ha] at hb; injection hb with hb; subst hb; rw [hn] at hst; cases hst
    · rw [ha] at hb; injection hb with hb; subst hb
      obtain ⟨m, hm⟩ := List.getElem?_of_mem hm
      rw [List.getElem?_dropLast] at hm
      split at hm
      · rename_i hml
        have hqm : Q[m]? = some a := by rw [← pt m (by omega) (by omega)]; exact hm
        have hnd := g.before
        rw [List.Nodup, List.pairwise_iff_getElem] at hnd
        have hlq : Q.dropLast.length = Q.length - 1 := by simp
        have := hnd m (P.length - 1) (by omega) (by omega) hml
        apply this
        rw [List.getElem_dropLast, List.getElem_dropLast]
        have e1 := (List.getElem?_eq_some_iff.1 hqm).2
        have e2 := (List.getElem?_eq_some_iff.1 hqk).2
        rw [e1, e2]
      · cases hm
  have hl : P.length = Q.length := by
    have h1 := key P Q e d h g lenP pt
    have h2 := key Q P d e g h lenQ fun k h1 h2 => (pt k h2 h1).symm
    omega
  have hPQ : P = Q := by
    apply List.ext_getElem?
    intro k
    by_cases hk : k < P.length
    · exact pt k hk (by omega)
    · rw [List.getElem?_eq_none (by omega), List.getElem?_eq_none (by omega)]
  subst hPQ
  refine ⟨rfl, ?_⟩
  have lastin : ∀ a : Nat, P.getLast? = some a → a ∈ P.dropLast → ¬ P.Nodup := by
    intro a ha hm hnd
    obtain ⟨ys, rfl⟩ := List.getLast?_eq_some_iff.1 ha
    rw [List.dropLast_concat] at hm
    rw [List.nodup_append] at hnd
    exact hnd.2.2 a hm a (by simp) rfl
  rcases h.ending with ⟨h1, h2, a, ha, hn⟩ | ⟨h1, h2, a, ha, hn⟩ | ⟨h1, a, ha, hm⟩ <;> rcases g.ending with ⟨g1, g2, b, hb, gn⟩ | ⟨g1, g2, b, hb, gn⟩ | ⟨g1, b, hb, gm⟩ <;> rw [ha] at hb <;> injection hb with hb <;> subst hb
  · omega
  · rw [hn] at gn; cases gn
  · exact absurd h2 (lastin _ ha gm)
  · rw [hn] at gn; cases gn
  · omega
  · exact absurd h2 (lastin _ ha gm)
  · exact absurd g2 (lastin _ ha hm)
  · exact absurd g2 (lastin _ ha hm)
  · omega

/-- The rest of a path that does not loop is a path. -/
theorem routed_drop {nx : Nat → Option (Option Nat)} {i k a : Nat} {P : List Nat} {e : Int} (h : Routed nx i P e) (he : e ≠ 2) (hk : P[k]? = some a) : Routed nx a (P.drop k) e := by
  have hkl := (List.getElem?_eq_some_iff.1 hk).1
  have hlast : (P.drop k).getLast? = P.getLast? := by
    rw [List.getLast?_drop, if_neg (by omega)]
  have hnd : P.Nodup := by
    rcases h.ending with ⟨_, h2, _⟩ | ⟨_, h2, _⟩ | ⟨h1, _⟩
    · exact h2
    · exact h2
    · exact absurd h1 he
  have hnd2 : (P.drop k).Nodup := hnd.sublist (List.drop_sublist _ _)
  refine ⟨by rw [List.getElem?_drop]; exact hk, fun m x y hx hy => ?_, hnd2.sublist (List.dropLast_sublist _), ?_⟩
  · rw [List.getElem?_drop] at hx hy
    exact h.step (k + m) x y hx hy
  · rw [hlast]
    rcases h.ending with ⟨h1, _, h3⟩ | ⟨h1, _, h3⟩ | ⟨h1, _⟩
    · exact .inl ⟨h1, hnd2, h3⟩
    · exact .inr (.inl ⟨h1, hnd2, h3⟩)
    · exact absurd h1 he
/-- From an office of a loop's path there is a loop too. -/
theorem routed_loop {nx : Nat → Option (Option Nat)} {i k a : Nat} {P Q : List Nat} {d : Int} (h : Routed nx i P 2) (hk : P[k]? = some a) (g : Routed nx a Q d) : d = 2 := by
  have go : ∀ b ∈ P, ∃ c ∈ P, nx b = some (some c) := by
    have inner : ∀ b ∈ P.dropLast, ∃ c ∈ P, nx b = some (some c) := by
      intro b hb
      obtain ⟨m, hm⟩ := List.getElem?_of_mem hb
      rw [List.getElem?_dropLast] at hm
      split at hm
      · rename_i hml
        have h1 := List.getElem?_eq_getElem (l := P) (i := m + 1) (by omega)
        exact ⟨_, List.getElem_mem _, h.step m b _ hm h1⟩
      · cases hm
    intro b hb
    rcases h.ending with ⟨h1, _⟩ | ⟨h1, _⟩ | ⟨_, c, hc, hm⟩
    · omega
    · omega
    · have hb2 : b ∈ P.dropLast ∨ b = c := by
        obtain ⟨ys, rfl⟩ := List.getLast?_eq_some_iff.1 hc
        rw [List.dropLast_concat]
        rcases List.mem_append.1 hb with hb | hb
        · exact .inl hb
        · simp at hb; exact .inr hb
      rcases hb2 with hb2 | rfl
      · exact inner b hb2
      · exact inner b hm
  have all : ∀ (m b : Nat), Q[m]? = some b → b ∈ P := by
    intro m
    induction m with
    | zero => intro b hb; rw [g.first] at hb; injection hb with hb; subst hb; exact List.mem_of_getElem? hk
    | succ m ih =>
      intro b hb
      have hml := (List.getElem?_eq_some_iff.1 hb).1
      have h1 := List.getElem?_eq_getElem (l := Q) (i := m) (by omega)
      obtain ⟨c, hc, hx⟩ := go _ (ih _ h1)
      have := g.step m _ _ h1 hb
      rw [hx] at this
      injection this with this
      injection this with this
      subst this; exact hc
  have bad : ∀ b, Q.getLast? = some b → ∃ c, nx b = some (some c) := fun b hb => by
    rw [List.getLast?_eq_getElem?] at hb
    obtain ⟨c, _, hc⟩ := go b (all _ b hb)
    exact ⟨c, hc⟩
  rcases g.ending with ⟨_, _, b, hb, hn⟩ | ⟨_, _, b, hb, hn⟩ | ⟨h1, _⟩
  · obtain ⟨c, hc⟩ := bad b hb; rw [hc] at hn; cases hn
  · obtain ⟨c, hc⟩ := bad b hb; rw [hc] at hn; cases hn
  · exact h1

/-- The path from office i. -/
def pathN (net : List Off) (c : ByteArray) (i : Nat) : List Nat × Int := routeI (nxtN net c) net.length [] i
theorem nxt_lt {net : List Off} {c : ByteArray} {a j : Nat} (h : nxtN net c a = some (some j)) : j < net.length := by
  unfold nxtN at h
  split at h
  · cases h
  · split at h
    · cases h
    · split at h
      · cases h
      · split at h
        · cases h
        · rename_i hj
          injection h with h
          injection h with h
          subst h
          exact (offI_some hj).choose_spec.2.2.1
theorem path_ok {net : List Off} {c : ByteArray} {i : Nat} (hi : i < net.length) : Routed (nxtN net c) i (pathN net c i).1 (pathN net c i).2 ∧ (pathN net c i).1.length ≤ net.length + 1 ∧ ∀ a ∈ (pathN net c i).1, a < net.length :=
  route_ok (fun a j h => nxt_lt h) net.length [] i i rfl (by simp) (by simpa using hi) (by simp) (by intro k a b ha hb; simp at hb)
theorem path_end {net : List Off} {c : ByteArray} {i : Nat} (hi : i < net.length) : (pathN net c i).2 = 0 ∨ (pathN net c i).2 = 1 ∨ (pathN net c i).2 = 2 := by
  rcases (path_ok (c := c) hi).1.ending with ⟨h, _⟩ | ⟨h, _⟩ | ⟨h, _⟩ <;> omega
def nameAt (net : List Off) (i : Nat) : ByteArray := match net[i]? with | some o => o.1 | none => emp
theorem nameAt_eq {net : List Off} {i : Nat} {o : Off} (h : net[i]? = some o) : nameAt net i = o.1 := by simp [nameAt, h]
/-- The answer for a letter posted at an office: names and how it ends; 3: no answer. -/
def rpath (net : List Off) (s c : ByteArray) : List ByteArray × Int :=
  match offI net s with
  | none => ([], 3)
  | some i => if nv net && codeB c then ((pathN net c i).1.map (nameAt net), (pathN net c i).2) else ([], 3)
theorem rpath_no_office {net : List Off} {s c : ByteArray} (h : offI net s = none) : rpath net s c = ([], 3) := by simp [rpath, h]
theorem rpath_no_net {net : List Off} {s c : ByteArray} (h : nv net = false) : rpath net s c = ([], 3) := by
  unfold rpath; split <;> simp [h]
theorem rpath_no_code {net : List Off} {s c : ByteArray} (h : codeB c = false) : rpath net s c = ([], 3) := by
  unfold rpath; split <;> simp [h]
theorem rpath_yes {net : List Off} {s c : ByteArray} {i : Nat} (h : offI net s = some i) (h1 : nv net = true) (h2 : codeB c = true) : rpath net s c = ((pathN net c i).1.map (nameAt net), (pathN net c i).2) := by
  simp [rpath, h, h1, h2]
/-- The office that delivers. -/
def homeO (net : List Off) (s c : ByteArray) : Option ByteArray := if (rpath net s c).2 = 0 then (rpath net s c).1.getLast? else none

end Go.Proofs.Ythmngaioimohaaa
