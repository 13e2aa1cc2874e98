
/- Plain laws of paths as the given laws ask them. No program in sight. -/
import Derived.Test.YthmngaioimohaaaNtLaw
namespace Go.Proofs.Ythmngaioimohaaa
open Go.RowKit
set_option linter.unusedVariables false

/-- A path that is one: all that it stands on. -/
theorem rpath_is {net : List Off} {s c : ByteArray} (h : (rpath net s c).2 ≠ 3) : ∃ i, offI net s = some i ∧ nv net = true ∧ codeB c = true ∧ i < net.length ∧ rpath net s c = ((pathN net c i).1.map (nameAt net), (pathN net c i).2) := by
  cases hi : offI net s with
  | none => rw [rpath_no_office hi] at h; exact absurd rfl h
  | some i =>
    cases hn : nv net with
    | false => rw [rpath_no_net hn] at h; exact absurd rfl h
    | true =>
      cases hc : codeB c with
      | false => rw [rpath_no_code hc] at h; exact absurd rfl h
      | true =>
        obtain ⟨_, _, _, hl, _⟩ := offI_some hi
        exact ⟨i, rfl, rfl, rfl, hl, rpath_yes hi hn hc⟩
theorem rpath_ends {net : List Off} {s c : ByteArray} (h : (rpath net s c).2 ≠ 3) : ((rpath net s c).2 = 0 ∨ (rpath net s c).2 = 1 ∨ (rpath net s c).2 = 2) ∧ 1 ≤ (rpath net s c).1.length ∧ (rpath net s c).1.length ≤ net.length + 1 ∧ net.length ≤ 8 ∧ (rpath net s c).1[0]? = some s := by
  obtain ⟨i, hi, hn, hc, hl, e⟩ := rpath_is h
  obtain ⟨h1, h2, h3⟩ := path_ok (c := c) hl
  have h4 := path_end (c := c) hl
  rw [e]
  obtain ⟨o, ho, hos, _⟩ := offI_some hi
  refine ⟨h4, ?_, by simpa using h2, (nv_parts hn).len.2, ?_⟩
  · have := (List.getElem?_eq_some_iff.1 h1.first).1
    show 1 ≤ ((pathN net c i).1.map (nameAt net)).length
    rw [List.length_map]; omega
  · show ((pathN net c i).1.map (nameAt net))[0]? = some s
    rw [List.getElem?_map, h1.first, ← hos]
    simp [nameAt_eq ho]
/-- What stands at place k of a path. -/
theorem rpath_at {net : List Off} {s c t : ByteArray} {k i : Nat} (hl : i < net.length) (hk : ((pathN net c i).1.map (nameAt net))[k]? = some t) : ∃ a o, (pathN net c i).1[k]? = some a ∧ net[a]? = some o ∧ o.1 = t ∧ a < net.length := by
  rw [List.getElem?_map, Option.map_eq_some_iff] at hk
  obtain ⟨a, ha, ht⟩ := hk
  have hal := (path_ok (c := c) hl).2.2 a (List.mem_of_getElem? ha)
  have ho := List.getElem?_eq_getElem hal
  exact ⟨a, _, ha, ho, by rw [← ht, nameAt_eq ho], hal⟩
theorem rpath_suffix {net : List Off} {s c t : ByteArray} {k : Nat} (h : (rpath net s c).2 ≠ 3) (hk : (rpath net s c).1[k]? = some t) :
    (rpath net t c).2 = (rpath net s c).2 ∧ ((rpath net s c).2 ≠ 2 → (rpath net t c).1 = (rpath net s c).1.drop k) := by
  obtain ⟨i, hi, hn, hc, hl, e⟩ := rpath_is h
  rw [e] at hk ⊢
  obtain ⟨a, o, ha, ho, ht, hal⟩ := rpath_at (s := s) hl hk
  have hia : offI net t = some a := by rw [← ht]; exact (nv_parts hn).idx ho
  rw [rpath_yes hia hn hc]
  have g1 := (path_ok (c := c) hl).1
  have g2 := (path_ok (c := c) hal).1
  by_cases h2 : (pathN net c i).2 = 2
  · refine ⟨?_, fun hne => absurd h2 hne⟩
    rw [h2] at g1
    show (pathN net c a).2 = (pathN net c i).2
    rw [h2]
    exact routed_loop g1 ha g2
  · obtain ⟨e1, e2⟩ := routed_eq g2 (routed_drop g1 h2 ha)
    refine ⟨e2, fun _ => ?_⟩
    show (pathN net c a).1.map (nameAt net) = ((pathN net c i).1.map (nameAt net)).drop k
    rw [e1, List.map_drop]
/-- At home. -/
theorem home_again {net : List Off} {s c m : ByteArray} (h : homeO net s c = some m) : (rpath net s c).2 = 0 ∧ homeO net m c = some m ∧ ∃ k, (rpath net s c).1.length = k + 1 ∧ (rpath net s c).1[k]? = some m := by
  unfold homeO at h
  split at h
  · rename_i h0
    have hne : (rpath net s c).2 ≠ 3 := by omega
    obtain ⟨_, h1, _⟩ := rpath_ends hne
    obtain ⟨k, hk⟩ : ∃ k, (rpath net s c).1.length = k + 1 := ⟨(rpath net s c).1.length - 1, by omega⟩
    rw [List.getLast?_eq_getElem?, hk, Nat.add_sub_cancel] at h
    obtain ⟨g1, g2⟩ := rpath_suffix hne h
    refine ⟨h0, ?_, k, hk, h⟩
    rw [homeO, if_pos (by omega), g2 (by omega), List.getLast?_drop, if_neg (by omega), List.getLast?_eq_getElem?, hk, Nat.add_sub_cancel, h]
  · cases h
theorem home_none {net : List Off} {s c : ByteArray} (h : homeO net s c = none) : (rpath net s c).2 ≠ 0 := fun h0 => by
  have hne : (rpath net s c).2 ≠ 3 := by omega
  obtain ⟨_, h1, _⟩ := rpath_ends hne
  rw [homeO, if_pos h0, List.getLast?_eq_none_iff] at h
  rw [h] at h1
  simp at h1
/-- Where the rules of the last office with a name send a letter. -/
def nextAt (net : List Off) (c t : ByteArray) : ByteArray := net.foldl (fun n o => if o.1 = t then orE (lookO o.2 c) else n) emp
theorem nextAt_snoc {net : List Off} {c t : ByteArray} {k : Nat} {o : Off} (h : net[k]? = some o) : nextAt (net.take (k + 1)) c t = if o.1 = t then orE (lookO o.2 c) else nextAt (net.take k) c t := by
  rw [take_snoc h, nextAt, List.foldl_append]; rfl
theorem nextAt_no {c t : ByteArray} : ∀ (net : List Off) (b : ByteArray), (∀ o ∈ net, o.1 ≠ t) → net.foldl (fun n o => if o.1 = t then orE (lookO o.2 c) else n) b = b
  | [], b, _ => rfl
  | o :: net, b, h => by
    rw [List.foldl_cons, if_neg (h o (by simp))]
    exact nextAt_no net b fun q hq => h q (by simp [hq])
theorem nextAt_eq {net : List Off} {c t : ByteArray} {k : Nat} {o : Off} (hv : nv net = true) (hc : codeB c = true) (hk : net[k]? = some o) (he : o.1 = t) : nextAt net c t = orE (nextR o.2 c) := by
  have hs := dropAt_split hk
  have hp := nv_parts hv
  have hlo : lookO o.2 c = nextR o.2 c := by simp [lookO, hp.rules o (List.mem_of_getElem? hk), hc]
  rw [← hlo]
  have hkl := (List.getElem?_eq_some_iff.1 hk).1
  have hno : ∀ q ∈ net.drop (k + 1), q.1 ≠ t := fun q hq e => by
    obtain ⟨j, hj⟩ := List.getElem?_of_mem hq
    rw [List.getElem?_drop] at hj
    have := hp.uniq hk hj (by rw [he, e])
    omega
  rw [nextAt, hs, List.foldl_append, List.foldl_cons, if_pos he]
  exact nextAt_no _ _ hno
theorem nextAt_uniq {net : List Off} {x y : Off} {a b : Nat} (hv : nv net = true) (ha : net[a]? = some x) (hb : net[b]? = some y) (he : x.1 = y.1) : a = b := (nv_parts hv).uniq ha hb he
/-- What stands at each place of a path. -/
structure RouteAt (net : List Off) (s c : ByteArray) (k : Nat) (t : ByteArray) : Prop where
  go : ∀ u, (rpath net s c).1[k + 1]? = some u → nextAt net c t = u ∧ t ∉ (rpath net s c).1.take k
  home : k + 1 = (rpath net s c).1.length → (rpath net s c).2 = 0 → nextAt net c t = here ∧ t ∉ (rpath net s c).1.take k
  lost : k + 1 = (rpath net s c).1.length → (rpath net s c).2 = 1 → nextAt net c t = emp ∧ t ∉ (rpath net s c).1.take k
  loop : k + 1 = (rpath net s c).1.length → (rpath net s c).2 = 2 → t ∈ (rpath net s c).1.take k
theorem nodup_take {α : Type} {l : List α} {k : Nat} {a : α} (h : l.Nodup) (hk : l[k]? = some a) : a ∉ l.take k := fun hm => by
  obtain ⟨j, hj⟩ := List.getElem?_of_mem hm
  have hjl := (List.getElem?_eq_some_iff.1 hj).1
  rw [List.getElem?_take] at hj
  simp at hjl
  rw [if_pos (by omega)] at hj
  rw [List.Nodup, List.pairwise_iff_getElem] at h
  obtain ⟨h1, h2⟩ := List.getElem?_eq_some_iff.1 hj
  obtain ⟨h3, h4⟩ := List.getElem?_eq_some_iff.1 hk
  exact h j k h1 h3 (by omega) (by rw [h2, h4])
theorem route_at {net : List Off} {s c t : ByteArray} {k : Nat} (h : (rpath net s c).2 ≠ 3) (hk : (rpath net s c).1[k]? = some t) : RouteAt net s c k t := by
  obtain ⟨i, hi, hn, hc, hl, e⟩ := rpath_is h
  rw [e] at hk
  obtain ⟨a, o, ha, ho, ht, hal⟩ := rpath_at (s := s) hl hk
  obtain ⟨g1, g2, g3⟩ := path_ok (c := c) hl
  have hp := nv_parts hn
  have hnx := nextAt_eq hn hc ho ht
  have hkl := (List.getElem?_eq_some_iff.1 ha).1
  -- a name that stands before stands for the same office
  have hmem : t ∈ (((pathN net c i).1.map (nameAt net)).take k) → a ∈ (pathN net c i).1.take k := fun hm => by
    rw [← List.map_take] at hm
    obtain ⟨b, hb, hbe⟩ := List.mem_map.1 hm
    have hbl := g3 b (List.mem_of_mem_take hb)
    have hbo := List.getElem?_eq_getElem hbl
    rw [nameAt_eq hbo, ← ht] at hbe
    have := hp.uniq hbo ho hbe
    subst this; exact hb
  have hlast : k + 1 = (pathN net c i).1.length → (pathN net c i).1.getLast? = some a := fun hh => by
    rw [List.getLast?_eq_getElem?, ← hh, Nat.add_sub_cancel, ha]
  have enx : ∀ (hx : nxtN net c a = none), nextR o.2 c = none := fun hx => by
    cases hq : nextR o.2 c with
    | none => rfl
    | some m =>
      by_cases hm : m = here
      · subst hm; rw [nxt_home ho hq] at hx; cases hx
      · obtain ⟨j, hj⟩ := nxt_some hp ho hq hm
        rw [nxt_to ho hq hm hj] at hx; cases hx
  have enh : ∀ (hx : nxtN net c a = some none), nextR o.2 c = some here := fun hx => by
    cases hq : nextR o.2 c with
    | none => rw [nxt_lost ho hq] at hx; cases hx
    | some m =>
      by_cases hm : m = here
      · subst hm; rfl
      · obtain ⟨j, hj⟩ := nxt_some hp ho hq hm
        rw [nxt_to ho hq hm hj] at hx
        injection hx with hx; cases hx
  have ent : ∀ b (hx : nxtN net c a = some (some b)), ∃ m, nextR o.2 c = some m ∧ offI net m = some b := fun b hx => by
    cases hq : nextR o.2 c with
    | none => rw [nxt_lost ho hq] at hx; cases hx
    | some m =>
      by_cases hm : m = here
      · subst hm; rw [nxt_home ho hq] at hx; injection hx with hx; cases hx
      · obtain ⟨j, hj⟩ := nxt_some hp ho hq hm
        rw [nxt_to ho hq hm hj] at hx
        injection hx with hx
        injection hx with hx
        subst hx
        exact ⟨m, rfl, hj⟩
  refine ⟨fun u hu => ?_, fun hlen h0 => ?_, fun hlen h1 => ?_, fun hlen h2 => ?_⟩
  · rw [e] at hu
    obtain ⟨b, p, hb, hp2, hbt, hbl⟩ := rpath_at (s := s) hl hu
    obtain ⟨m, hm, hmj⟩ := ent b (g1.step k a b ha hb)
    refine ⟨?_, fun hmm => ?_⟩
    · obtain ⟨p', hp', hpe, _⟩ := offI_some hmj
      rw [hp2] at hp'
      injection hp' with hp'
      subst hp'
      rw [hnx, hm, ← hbt, hpe]; rfl
    · rw [e] at hmm
      have hin := hmem hmm
      have hbk := (List.getElem?_eq_some_iff.1 hb).1
      have hd : (pathN net c i).1.dropLast[k]? = some a := by rw [List.getElem?_dropLast, if_pos (by omega)]; exact ha
      have := nodup_take g1.before hd
      rw [List.dropLast_eq_take, List.take_take, Nat.min_eq_left (by omega)] at this
      exact this hin
  · rw [e] at hlen h0
    have hlen' : k + 1 = (pathN net c i).1.length := by simpa using hlen
    rcases g1.ending with ⟨h1, _⟩ | ⟨_, hnd, x, hx, hxn⟩ | ⟨h1, _⟩
    · exfalso; have : (pathN net c i).2 = 0 := h0; omega
    · rw [hlast hlen'] at hx
      injection hx with hx
      subst hx
      refine ⟨by rw [hnx, enh hxn]; rfl, fun hm => ?_⟩
      rw [e] at hm
      exact nodup_take hnd ha (hmem hm)
    · exfalso; have : (pathN net c i).2 = 0 := h0; omega
  · rw [e] at hlen h1
    have hlen' : k + 1 = (pathN net c i).1.length := by simpa using hlen
    rcases g1.ending with ⟨_, hnd, x, hx, hxn⟩ | ⟨h3, _⟩ | ⟨h3, _⟩
    · rw [hlast hlen'] at hx
      injection hx with hx
      subst hx
      refine ⟨by rw [hnx, enx hxn]; rfl, fun hm => ?_⟩
      rw [e] at hm
      exact nodup_take hnd ha (hmem hm)
    · exfalso; have : (pathN net c i).2 = 1 := h1; omega
    · exfalso; have : (pathN net c i).2 = 1 := h1; omega
  · rw [e] at hlen h2
    have hlen' : k + 1 = (pathN net c i).1.length := by simpa using hlen
    rcases g1.ending with ⟨h3, _⟩ | ⟨h3, _⟩ | ⟨_, x, hx, hxm⟩
    · exfalso; have : (pathN net c i).2 = 2 := h2; omega
    · exfalso; have : (pathN net c i).2 = 2 := h2; omega
    · rw [hlast hlen'] at hx
      injection hx with hx
      subst hx
      rw [e]
      rw [List.dropLast_eq_take, ← hlen', Nat.add_sub_cancel] at hxm
      rw [← List.map_take]
      exact List.mem_map.2 ⟨a, hxm, by rw [nameAt_eq ho, ht]⟩

end Go.Proofs.Ythmngaioimohaaa
