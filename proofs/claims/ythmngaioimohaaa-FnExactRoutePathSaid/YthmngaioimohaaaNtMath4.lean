
/- Plain lists: networks with shrunk rules, and faulty prefixes. No program in sight. -/
import Derived.Test.YthmngaioimohaaaNtMath3
namespace Go.Proofs.Ythmngaioimohaaa
open Go.RowKit
set_option linter.unusedVariables false

/-- A network with shrunk rules. -/
def small (net : List Off) : List Off := net.map fun o => (o.1, shrink o.2)
theorem small_at {net : List Off} {i : Nat} {o : Off} (h : net[i]? = some o) : (small net)[i]? = some (o.1, shrink o.2) := by simp [small, h]
theorem small_off (net : List Off) (s : ByteArray) : offI (small net) s = offI net s := by
  rw [offI, offI, small, List.findIdx?_map]; rfl
theorem small_nv {net : List Off} (h : nv net = true) : nv (small net) = true := by
  have hp := nv_parts h
  refine nv_mk ⟨by simpa [small] using hp.len, fun o ho => ?_, fun o ho => ?_, fun o ho => ?_, fun o ho r hr => ?_, ?_⟩
  · obtain ⟨q, hq, rfl⟩ := List.mem_map.1 ho; exact hp.name q hq
  · obtain ⟨q, hq, rfl⟩ := List.mem_map.1 ho; exact hp.ne q hq
  · obtain ⟨q, hq, rfl⟩ := List.mem_map.1 ho; exact shrink_rv (hp.rules q hq)
  · obtain ⟨q, hq, rfl⟩ := List.mem_map.1 ho
    rw [small_off]
    exact hp.next q hq r ((shrink_sub (hp.rules q hq)).subset hr)
  · have : (small net).map (·.1) = net.map (·.1) := by simp [small]
    rw [this]; exact hp.nodup
theorem small_nxt {net : List Off} (h : nv net = true) (c : ByteArray) : nxtN (small net) c = nxtN net c := by
  have hp := nv_parts h
  funext i
  cases hi : net[i]? with
  | none =>
    have : (small net)[i]? = none := by simp [small, hi]
    simp only [nxtN, hi, this]
  | some o =>
    have h2 := small_at hi
    simp only [nxtN, hi, h2, shrink_next (hp.rules o (List.mem_of_getElem? hi)), small_off]
theorem small_len (net : List Off) : (small net).length = net.length := by simp [small]
theorem small_path {net : List Off} (h : nv net = true) (c : ByteArray) (i : Nat) : pathN (small net) c i = pathN net c i := by
  rw [pathN, pathN, small_nxt h, small_len]
theorem small_name (net : List Off) (i : Nat) : nameAt (small net) i = nameAt net i := by
  unfold nameAt
  cases hi : net[i]? with
  | none => have : (small net)[i]? = none := by simp [small, hi]
            rw [this]
  | some o => rw [small_at hi]
theorem small_rpath {net : List Off} (h : nv net = true) (s c : ByteArray) : rpath (small net) s c = rpath net s c := by
  unfold rpath
  rw [small_off]
  cases offI net s with
  | none => rfl
  | some i =>
    simp only [small_nv h, h, small_path h]
    have : nameAt (small net) = nameAt net := by funext j; exact small_name net j
    rw [this]

/-- Do no letters with codes that begin with p come home? All of them? -/
def AllBad (good : ByteArray → Bool) (p : ByteArray) : Prop := ∀ c, codeB c = true → begins c p = true → good c = false
def AllGood (good : ByteArray → Bool) (p : ByteArray) : Prop := ∀ c, codeB c = true → begins c p = true → good c = true
theorem not_both {good : ByteArray → Bool} {p : ByteArray} (hp : preB p = true) (h1 : AllBad good p) (h2 : AllGood good p) : False := by
  have a := h1 _ (firstW_code hp) (firstW_begins p)
  have b := h2 _ (firstW_code hp) (firstW_begins p)
  rw [a] at b; cases b
theorem bad_down {good : ByteArray → Bool} {p : ByteArray} (h : AllBad good p) (d : Nat) : AllBad good (p ++ dgt d) := fun c hc hb => h c hc (begins_trans hb (begins_app _ _))
theorem good_down {good : ByteArray → Bool} {p : ByteArray} (h : AllGood good p) (d : Nat) : AllGood good (p ++ dgt d) := fun c hc hb => h c hc (begins_trans hb (begins_app _ _))
theorem bad_up {good : ByteArray → Bool} {p : ByteArray} (hp : p.size < 7) (h : ∀ d, d < 10 → AllBad good (p ++ dgt d)) : AllBad good p := fun c hc hb => by
  obtain ⟨d, hd, hb2⟩ := begins_next hc hp hb
  exact h d hd c hc hb2

/-- The prefixes of the codes whose letters do not come home, as they are meant. -/
noncomputable def faultM (good : ByteArray → Bool) : Nat → ByteArray → List ByteArray
  | 0, p => if good (firstW p) = true then [] else [p]
  | f + 1, p => by classical exact if AllBad good p then [p] else if AllGood good p then [] else ((List.range 10).map fun d => faultM good f (p ++ dgt d)).flatten
/-- .. and as the program asks for them; op: does a rule have a longer prefix? -/
def faultP (good : ByteArray → Bool) (op : ByteArray → Bool) : Nat → ByteArray → List ByteArray
  | 0, p => if good (firstW p) = true then [] else [p]
  | f + 1, p => if op p = false then (if good (firstW p) = true then [] else [p])
    else if ∀ d ∈ List.range 10, faultP good op f (p ++ dgt d) = [p ++ dgt d] then [p] else ((List.range 10).map fun d => faultP good op f (p ++ dgt d)).flatten

theorem last_code {p c : ByteArray} (hc : codeB c = true) (hp : p.size = 7) (hb : begins c p = true) : c = p := by
  have h1 := codeB_parts hc
  exact (begins_same (begins_self c) hb (by omega))
theorem faultM_bad {good : ByteArray → Bool} {f : Nat} {p : ByteArray} (hp : preB p = true) (hs : p.size + f = 7) (h : AllBad good p) : faultM good f p = [p] := by
  cases f with
  | zero => rw [faultM, if_neg (by rw [h _ (firstW_code hp) (firstW_begins p)]; simp)]
  | succ f => simp only [faultM]; rw [if_pos h]
theorem faultM_good {good : ByteArray → Bool} {f : Nat} {p : ByteArray} (hp : preB p = true) (hs : p.size + f = 7) (h : AllGood good p) : faultM good f p = [] := by
  cases f with
  | zero => rw [faultM, if_pos (h _ (firstW_code hp) (firstW_begins p))]
  | succ f => simp only [faultM]; rw [if_neg (fun hb => not_both hp hb h), if_pos h]
theorem faultM_size (good : ByteArray → Bool) : ∀ (f : Nat) (p : ByteArray), preB p = true → p.size + f = 7 → ∀ q ∈ faultM good f p, p.size ≤ q.size
  | 0, p, _, _, q, hq => by
    rw [faultM] at hq
    split at hq
    · simp at hq
    · simp at hq; subst hq; exact Nat.le_refl _
  | f + 1, p, hp, hs, q, hq => by
    simp only [faultM] at hq
    split at hq
    · simp at hq; subst hq; exact Nat.le_refl _
    · split at hq
      · simp at hq
      · obtain ⟨l, hl, hql⟩ := List.mem_flatten.1 hq
        obtain ⟨d, hd, rfl⟩ := List.mem_map.1 hl
        have := faultM_size good f (p ++ dgt d) (preB_app hp (by omega) (List.mem_range.1 hd)) (by rw [size_app, size_dgt]; omega) q hql
        rw [size_app, size_dgt] at this
        omega
theorem faultM_one {good : ByteArray → Bool} {f : Nat} {p : ByteArray} (hp : preB p = true) (hs : p.size + f = 7) : faultM good f p = [p] ↔ AllBad good p := by
  refine ⟨fun h => ?_, faultM_bad hp hs⟩
  cases f with
  | zero =>
    intro c hc hb
    have e := last_code hc (by omega) hb
    have e2 := last_code (firstW_code hp) (by omega) (firstW_begins p)
    rw [faultM] at h
    split at h
    · cases h
    · rename_i hg
      rw [e2] at hg
      rw [e]; simpa using hg
  | succ f =>
    simp only [faultM] at h
    split at h
    · assumption
    · split at h
      · cases h
      · exfalso
        have : p ∈ ((List.range 10).map fun d => faultM good f (p ++ dgt d)).flatten := by rw [h]; simp
        obtain ⟨l, hl, hql⟩ := List.mem_flatten.1 this
        obtain ⟨d, hd, rfl⟩ := List.mem_map.1 hl
        have := faultM_size good f (p ++ dgt d) (preB_app hp (by omega) (List.mem_range.1 hd)) (by rw [size_app, size_dgt]; omega) p hql
        rw [size_app, size_dgt] at this
        omega
/-- The two are the same where codes below a prefix without longer rules are all alike. -/
theorem faultP_eq {good : ByteArray → Bool} {op : ByteArray → Bool} (hop : ∀ p, op p = true → p.size < 7) (hleaf : ∀ p c, preB p = true → op p = false → codeB c = true → begins c p = true → good c = good (firstW p)) :
    ∀ (f : Nat) (p : ByteArray), preB p = true → p.size + f = 7 → faultP good op f p = faultM good f p := by
  intro f
  induction f with
  | zero => intro p _ _; rfl
  | succ f ih =>
    intro p hp hs
    have h7 : p.size < 7 := by omega
    have hd : ∀ d, d < 10 → faultP good op f (p ++ dgt d) = faultM good f (p ++ dgt d) := fun d hd => ih _ (preB_app hp h7 hd) (by rw [size_app, size_dgt]; omega)
    rw [faultP]
    by_cases ho : op p = false
    · rw [if_pos ho]
      by_cases hg : good (firstW p) = true
      · rw [if_pos hg]
        exact (faultM_good hp hs fun c hc hb => (hleaf p c hp ho hc hb).trans hg).symm
      · rw [if_neg hg]
        exact (faultM_bad hp hs fun c hc hb => by rw [hleaf p c hp ho hc hb]; simpa using hg).symm
    · rw [if_neg ho]
      by_cases hall : ∀ d ∈ List.range 10, faultP good op f (p ++ dgt d) = [p ++ dgt d]
      · rw [if_pos hall]
        refine (faultM_bad hp hs (bad_up h7 fun d hd10 => ?_)).symm
        have := hall d (List.mem_range.2 hd10)
        rw [hd d hd10] at this
        exact (faultM_one (preB_app hp h7 hd10) (by rw [size_app, size_dgt]; omega)).1 this
      · rw [if_neg hall]
        have hmap : ((List.range 10).map fun d => faultP good op f (p ++ dgt d)) = (List.range 10).map fun d => faultM good f (p ++ dgt d) :=
          List.map_congr_left fun d hd10 => hd d (List.mem_range.1 hd10)
        rw [hmap]
        by_cases hg : AllGood good p
        · rw [faultM_good hp hs hg, List.flatten_eq_nil_iff]
          intro l hl
          obtain ⟨d, hd10, rfl⟩ := List.mem_map.1 hl
          exact faultM_good (preB_app hp h7 (List.mem_range.1 hd10)) (by rw [size_app, size_dgt]; omega) (good_down hg d)
        · simp only [faultM]
          rw [if_neg ?_, if_neg hg]
          intro hb
          apply hall
          intro d hd10
          rw [hd d (List.mem_range.1 hd10)]
          exact faultM_bad (preB_app hp h7 (List.mem_range.1 hd10)) (by rw [size_app, size_dgt]; omega) (bad_down hb d)
theorem faultM_congr {g1 g2 : ByteArray → Bool} (h : ∀ c, codeB c = true → g1 c = g2 c) : ∀ (f : Nat) (p : ByteArray), preB p = true → p.size + f = 7 → faultM g1 f p = faultM g2 f p := by
  intro f
  induction f with
  | zero => intro p hp _; rw [faultM, faultM, h _ (firstW_code hp)]
  | succ f ih =>
    intro p hp hs
    have e1 : AllBad g1 p ↔ AllBad g2 p := ⟨fun a c hc hb => by rw [← h c hc]; exact a c hc hb, fun a c hc hb => by rw [h c hc]; exact a c hc hb⟩
    have e2 : AllGood g1 p ↔ AllGood g2 p := ⟨fun a c hc hb => by rw [← h c hc]; exact a c hc hb, fun a c hc hb => by rw [h c hc]; exact a c hc hb⟩
    have hmap : ((List.range 10).map fun d => faultM g1 f (p ++ dgt d)) = (List.range 10).map fun d => faultM g2 f (p ++ dgt d) :=
      List.map_congr_left fun d hd10 => ih _ (preB_app hp (by omega) (List.mem_range.1 hd10)) (by rw [size_app, size_dgt]; omega)
    simp only [faultM]
    by_cases b1 : AllBad g1 p
    · rw [if_pos b1, if_pos (e1.1 b1)]
    · rw [if_neg b1, if_neg (fun hb => b1 (e1.2 hb))]
      by_cases b2 : AllGood g1 p
      · rw [if_pos b2, if_pos (e2.1 b2)]
      · rw [if_neg b2, if_neg (fun hb => b2 (e2.2 hb)), hmap]

/-- Does a letter come home from office i? Does a rule of the network have a longer prefix? -/
def comes (net : List Off) (i : Nat) (c : ByteArray) : Bool := decide ((pathN net c i).2 = 0)
def openN (net : List Off) (p : ByteArray) : Bool := net.any (fun o => longer o.2 p)
theorem openN_false {net : List Off} {p : ByteArray} (h : openN net p = false) : ∀ o ∈ net, longer o.2 p = false := by
  intro o ho
  rw [openN, List.any_eq_false] at h
  have := h o ho
  simpa using this
theorem openN_true {net : List Off} {p : ByteArray} (h : openN net p = true) : ∃ o ∈ net, longer o.2 p = true := by
  rw [openN, List.any_eq_true] at h; exact h
theorem nxt_leaf {net : List Off} {p c : ByteArray} (ho : openN net p = false) (hb : begins c p = true) : nxtN net c = nxtN net p := by
  funext i
  cases hi : net[i]? with
  | none => simp only [nxtN, hi]
  | some o => simp only [nxtN, hi, next_leaf (openN_false ho o (List.mem_of_getElem? hi)) hb]
theorem path_leaf {net : List Off} {p c : ByteArray} (ho : openN net p = false) (hb : begins c p = true) (i : Nat) : pathN net c i = pathN net p i := by
  rw [pathN, pathN, nxt_leaf ho hb]
def faults (net : List Off) (i : Nat) : List ByteArray := faultP (comes net i) (openN net) 7 emp
theorem faults_small {net : List Off} (h : nv net = true) (i : Nat) : faults (small net) i = faults net i := by
  have key : ∀ net : List Off, nv net = true → faults net i = faultM (comes net i) 7 emp := fun net h => by
    have hp := nv_parts h
    refine faultP_eq (fun p ho => ?_) (fun p c hpp ho hc hb => ?_) 7 emp preB_emp rfl
    · obtain ⟨o, hom, hl⟩ := openN_true ho
      exact longer_size (rv_parts (hp.rules o hom)) hl
    · rw [comes, comes, path_leaf ho hb, path_leaf ho (firstW_begins p)]
  rw [key _ (small_nv h), key _ h]
  exact faultM_congr (fun c _ => by rw [comes, comes, small_path h]) 7 emp preB_emp rfl
def faultN (net : List Off) (s : ByteArray) : List ByteArray := match offI net s with
  | none => []
  | some i => if nv net then faults net i else []
theorem faultN_small {net : List Off} (h : nv net = true) (s : ByteArray) : faultN (small net) s = faultN net s := by
  unfold faultN
  rw [small_off]
  cases offI net s with
  | none => rfl
  | some i => simp only [small_nv h, h, faults_small h]

end Go.Proofs.Ythmngaioimohaaa
