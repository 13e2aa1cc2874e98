
/- Plain lists: what the laws of orders say. No program in sight. -/
import Derived.Test.YtefgfdehinpbaaaFw9
namespace Go.Proofs.Ytefgfdehinpbaaa
open Go.RowKit
set_option linter.unusedVariables false

/- An order put in. -/
theorem putF_last (xs : List Fwd) (f t : ByteArray) : (f, t) ∈ putF xs f t := by simp [putF]
theorem woI_keep {xs : List Fwd} {f : ByteArray} {x : Fwd} (hx : x ∈ xs) (h : x.1 ≠ f) : x ∈ woI xs (idxI xs f) := by
  rcases idxI_cases xs f with ⟨e, _⟩ | ⟨i, r, e, _, hr, he, hi⟩
  · rw [e, woI, if_pos (by omega)]; exact hx
  · rw [e, woI, if_neg (by omega), Int.toNat_natCast, List.mem_eraseIdx_iff_getElem?]
    obtain ⟨j, hj⟩ := List.getElem?_of_mem hx
    refine ⟨j, fun hji => ?_, hj⟩
    subst hji
    rw [hr] at hj
    injection hj with hj
    subst hj
    exact h he
theorem putF_mem {xs : List Fwd} {f t : ByteArray} {x : Fwd} (h : x ∈ putF xs f t) : x ∈ xs ∨ x = (f, t) := by
  rcases List.mem_append.1 h with h | h
  · exact .inl (woI_mem h)
  · exact .inr (by simpa using h)
theorem put_next {xs : List Fwd} {f t : ByteArray} (h : fv (putF xs f t) = true) : nextF (putF xs f t) f = some t := nextF_of (fv_parts h) (r := (f, t)) (putF_last xs f t)
theorem put_stay {xs : List Fwd} {f t : ByteArray} (h : fv (putF xs f t) = true) {x : Fwd} (hx : x ∈ xs) (hn : x.1 ≠ f) : nextF (putF xs f t) x.1 = some x.2 :=
  nextF_of (fv_parts h) (List.mem_append_left _ (woI_keep hx hn))
theorem put_ne {xs : List Fwd} {f t : ByteArray} {p : ByteArray × Nat} (h : fv (putF xs f t) = true) (hr : resolve (putF xs f t) f = some p) : f ≠ t := by
  rintro rfl
  have he := resolve_iff.1 (show resolve (putF xs f f) f = some (p.1, p.2) from hr)
  cases hm : p.2 with
  | zero => rw [hm] at he; have := he.2; rw [put_next h] at this; cases this
  | succ m =>
    rw [hm] at he
    obtain ⟨d, hd, h2⟩ := he
    rw [put_next h] at hd
    injection hd with hd
    subst hd
    have h3 : Ends (putF xs f f) (m + 1) f p.1 := ⟨f, put_next h, h2⟩
    have := (ends_det h2 h3).1
    omega
theorem put_ends {xs : List Fwd} {f t : ByteArray} {p : ByteArray × Nat} (h : fv (putF xs f t) = true) (hr : resolve (putF xs f t) f = some p) : ∀ {n : Nat} {c e : ByteArray}, Ends xs n c e → ∃ d, endF (putF xs f t) c = some d
  | n, c, e, he => by
    by_cases hc : c = f
    · subst hc; exact ⟨p.1, by rw [endF, hr]; rfl⟩
    · cases n with
      | zero =>
        refine ⟨c, endF_self (nextF_none.2 fun r hm hq => ?_)⟩
        rcases putF_mem hm with hm | rfl
        · exact nextF_none.1 he.2 r hm hq
        · exact hc hq.symm
      | succ n =>
        obtain ⟨d, hd, he⟩ := he
        obtain ⟨g, hg⟩ := put_ends h hr he
        exact ⟨g, by rw [endF_next (put_stay h (nextF_mem hd) hc), hg]⟩
theorem put_endless {xs : List Fwd} {f t : ByteArray} {p : ByteArray × Nat} (h0 : fv xs = true) (h : fv (putF xs f t) = true) (hr : resolve (putF xs f t) f = some p) {c : ByteArray} (hc : c ∈ endless (putF xs f t)) : c ∈ endless xs := by
  rw [endless_yes h, mem_srt, mem_endT] at hc
  rw [endless_yes h0, mem_srt, mem_endT]
  have hcf : c ≠ f := by rintro rfl; rw [hr] at hc; cases hc.2
  obtain ⟨r, hm, rfl⟩ := List.mem_map.1 hc.1
  refine ⟨?_, ?_⟩
  · rcases putF_mem hm with hm | rfl
    · exact List.mem_map.2 ⟨r, hm, rfl⟩
    · exact absurd rfl hcf
  · cases hq : resolve xs r.1 with
    | none => rfl
    | some q =>
      obtain ⟨d, hd⟩ := put_ends h hr (resolve_iff.1 (show resolve xs r.1 = some (q.1, q.2) from hq))
      rw [endF, hc.2] at hd; cases hd

/- Sources. -/
theorem sources_stay {xs : List Fwd} (h : fv xs = true) {c d : ByteArray} (hn : nextF xs c = some d) : sources xs c = [] := by
  cases hs : sources xs c with
  | nil => rfl
  | cons s l =>
    obtain ⟨_, n, hq⟩ := (mem_sources h (c := c) (d := s)).1 (by rw [hs]; simp)
    rw [ends_last (resolve_iff.1 hq)] at hn; cases hn

/- Direct orders. -/
theorem froms_direct {xs : List Fwd} (h : fv xs = true) : froms (direct xs) = (srt (froms xs)).filter fun c => (resolve xs c).isSome := by rw [direct_yes h, dirL_froms]
theorem direct_from {xs : List Fwd} (h : fv xs = true) {x : Fwd} (hx : x ∈ direct xs) : x.1 ∈ froms xs := ((mem_direct h).1 hx).1
theorem fv_direct {xs : List Fwd} (h : fv xs = true) : fv (direct xs) = true := by
  have hp := fv_parts h
  refine fv_mk ⟨Nat.le_trans (direct_len xs) hp.len, fun r hr => ?_, fun r hr => ?_, ?_⟩
  · obtain ⟨q, hq, e⟩ := List.mem_map.1 (direct_from h hr)
    rw [← e]; exact hp.frm q hq
  · obtain ⟨h1, n, hn⟩ := (mem_direct h).1 hr
    obtain ⟨q, hq, e⟩ := List.mem_map.1 h1
    exact ends_code hp (by rw [← e]; exact hp.frm q hq) (resolve_iff.1 hn)
  · have := froms_direct h
    rw [froms] at this
    rw [this]
    exact (srt_nodup (froms_nodup hp)).sublist List.filter_sublist
theorem direct_stay {xs : List Fwd} (h : fv xs = true) {c : ByteArray} (hn : nextF xs c = none) : nextF (direct xs) c = none := nextF_none.2 fun r hr e => by
  obtain ⟨q, hq, he⟩ := List.mem_map.1 (direct_from h hr)
  exact nextF_none.1 hn q hq (he.trans e)
theorem direct_end {xs : List Fwd} (h : fv xs = true) {x : Fwd} (hx : x ∈ direct xs) : nextF (direct xs) x.2 = none := by
  obtain ⟨_, n, hn⟩ := (mem_direct h).1 hx
  exact direct_stay h (ends_last (resolve_iff.1 hn))
theorem direct_one {xs : List Fwd} (h : fv xs = true) {x : Fwd} (hx : x ∈ direct xs) : resolve (direct xs) x.1 = some (x.2, 1) :=
  resolve_iff.2 ⟨x.2, nextF_of (fv_parts (fv_direct h)) hx, rfl, direct_end h hx⟩
theorem resolve_stay {xs : List Fwd} {c : ByteArray} (h : nextF xs c = none) : resolve xs c = some (c, 0) := resolve_iff.2 ⟨rfl, h⟩
theorem direct_res {xs : List Fwd} (h : fv xs = true) {x : Fwd} (hx : x ∈ direct xs) : ∃ n, resolve xs x.1 = some (x.2, n) := ((mem_direct h).1 hx).2
theorem direct_code {xs : List Fwd} (h : fv xs = true) {x : Fwd} (hx : x ∈ direct xs) : codeB x.1 = true := (fv_parts (fv_direct h)).frm x hx
theorem direct_asc {xs : List Fwd} (h : fv xs = true) {k : Nat} {x y : Fwd} (hx : (direct xs)[k]? = some x) (hy : (direct xs)[k + 1]? = some y) : ltB x.1 y.1 = true := by
  have hs : (direct xs).Pairwise (fun a b => leB a.1 b.1 = true) := by rw [direct_yes h]; exact dirL_pair (srt_sorted _)
  have hd := (fv_parts (fv_direct h)).nodup
  obtain ⟨h1, h2⟩ := List.getElem?_eq_some_iff.1 hx
  obtain ⟨h3, h4⟩ := List.getElem?_eq_some_iff.1 hy
  have hle := List.pairwise_iff_getElem.1 hs k (k + 1) h1 h3 (by omega)
  rw [List.Nodup, List.pairwise_iff_getElem] at hd
  have hne := hd k (k + 1) (by simpa using h1) (by simpa using h3) (by omega)
  rw [List.getElem_map, List.getElem_map, h2, h4] at hne
  rw [h2, h4] at hle
  rw [ltB_not, Bool.not_eq_true']
  cases hq : leB y.1 x.1 with
  | false => rfl
  | true => exact absurd (leB_anti hle hq) hne
theorem split_len (p : ByteArray → Bool) : ∀ l : List ByteArray, (l.filter p).length + (l.filter fun x => !p x).length = l.length
  | [] => rfl
  | x :: l => by
    have := split_len p l
    cases h : p x <;> simp [h] <;> omega
theorem direct_count {xs : List Fwd} (h : fv xs = true) : (direct xs).length + (endless xs).length = xs.length := by
  have h1 : (direct xs).length = ((froms xs).filter fun c => (resolve xs c).isSome).length := by
    rw [← froms_len (direct xs), froms_direct h]
    exact ((srt_perm (froms xs)).filter _).length_eq
  have h2 : (endless xs).length = ((froms xs).filter fun c => !(resolve xs c).isSome).length := by
    rw [endless_yes h, srt_length, endT, List.take_length, froms, List.filter_map, List.length_map, List.length_map]
    congr 2
    funext r
    simp [Function.comp]
  rw [h1, h2, ← froms_len xs]
  exact split_len _ _
theorem longT_le {xs : List Fwd} {m : Int} (hm : 0 ≤ m) (h : ∀ x ∈ xs, ∀ p, resolve xs x.1 = some p → (p.2 : Int) ≤ m) : ∀ k, longT xs k ≤ m
  | 0 => hm
  | k + 1 => by
    have ih := longT_le hm h k
    cases hx : xs[k]? with
    | none => simp [longT, hx, ih]
    | some x =>
      cases hr : resolve xs x.1 with
      | none => rw [longT_none hx hr]; exact ih
      | some p => rw [longT_some hx hr]; have := h x (List.mem_of_getElem? hx) p hr; omega
theorem direct_long {xs : List Fwd} (h : fv xs = true) : longest (direct xs) ≤ 1 := by
  rw [longest_yes (fv_direct h)]
  refine longT_le (by omega) (fun x hx p hp => ?_) _
  rw [direct_one h hx] at hp
  injection hp with hp
  subst hp
  exact Int.le_refl _
theorem direct_twice {xs : List Fwd} (h : fv xs = true) : direct (direct xs) = direct xs := by
  have e : dirL (direct xs) (froms (direct xs)) = direct xs := by
    rw [dirL, froms, List.filterMap_map]
    have : ∀ l : List Fwd, (∀ x ∈ l, x ∈ direct xs) → l.filterMap (dirE (direct xs) ∘ (·.1)) = l := by
      intro l
      induction l with
      | nil => intro _; rfl
      | cons y l ih =>
        intro hl
        rw [List.filterMap_cons_some (b := y)]
        · rw [ih fun x hx => hl x (by simp [hx])]
        · show dirE (direct xs) y.1 = some y
          rw [dirE_some (direct_one h (hl y (by simp)))]
    exact this _ fun _ hx => hx
  refine (direct_uniq (fv_direct h) (by rw [e]) ?_).symm
  rw [direct_yes h]; exact dirL_pair (srt_sorted _)
theorem alike_of {a b : List Fwd} {c : ByteArray} : alike a b c = true ↔ ((resolve a c).isSome = (resolve b c).isSome ∧ reS (resolve a c) = reS (resolve b c)) := by simp [alike]
theorem alike_none {a b : List Fwd} {c : ByteArray} (h : alike a b c = true) : resolve a c = none ↔ resolve b c = none := by
  have := (alike_of.1 h).1
  cases h1 : resolve a c <;> cases h2 : resolve b c <;> simp [h1, h2] at this ⊢
theorem sameF_of {a b : List Fwd} (ha : fv a = true) (hb : fv b = true) : sameF a b = true ↔ ∀ r ∈ a ++ b, alike a b r.1 = true := by
  rw [sameF, ha, hb]
  simp only [Bool.and_self, Bool.true_and, List.all_eq_true]
theorem endless_nil {xs : List Fwd} (h : fv xs = true) : endless xs = [] ↔ ∀ c ∈ froms xs, resolve xs c ≠ none := by
  constructor
  · intro he c hc hn
    have : c ∈ endless xs := by rw [endless_yes h, mem_srt, mem_endT]; exact ⟨hc, hn⟩
    rw [he] at this; cases this
  · intro hh
    cases he : endless xs with
    | nil => rfl
    | cons c l =>
      have : c ∈ endless xs := by rw [he]; simp
      rw [endless_yes h, mem_srt, mem_endT] at this
      exact absurd this.2 (hh c this.1)
theorem direct_same {xs : List Fwd} (h : fv xs = true) : sameF (direct xs) xs = decide (endless xs = []) := by
  rw [Bool.eq_iff_iff, sameF_of (fv_direct h) h, decide_eq_true_eq, endless_nil h]
  constructor
  · intro hh c hc hn
    obtain ⟨r, hr, rfl⟩ := List.mem_map.1 hc
    have h1 := (alike_none (hh r (List.mem_append_right _ hr))).2 hn
    obtain ⟨d, hd⟩ := endless_order (rs := direct xs) (c := r.1) (by rw [endF, h1]; rfl)
    have h2 := direct_one h (nextF_mem hd)
    rw [h1] at h2; cases h2
  · intro hh
    have key : ∀ r, r ∈ direct xs → alike (direct xs) xs r.1 = true := fun r hr => by
      obtain ⟨n, hn⟩ := direct_res h hr
      rw [alike_of, direct_one h hr, hn]; exact ⟨rfl, rfl⟩
    intro r hr
    rcases List.mem_append.1 hr with hr | hr
    · exact key r hr
    · have hf : r.1 ∈ froms xs := List.mem_map.2 ⟨r, hr, rfl⟩
      cases hq : resolve xs r.1 with
      | none => exact absurd hq (hh _ hf)
      | some p => exact key (r.1, p.1) ((mem_direct h).2 ⟨hf, p.2, hq⟩)

/- Lists of orders that are alike. -/
theorem alike_symm {a b : List Fwd} {c : ByteArray} : alike a b c = alike b a c := by
  rw [Bool.eq_iff_iff, alike_of, alike_of]
  exact ⟨fun h => ⟨h.1.symm, h.2.symm⟩, fun h => ⟨h.1.symm, h.2.symm⟩⟩
theorem sameF_symm (a b : List Fwd) : sameF b a = sameF a b := by
  cases ha : fv a with
  | false => rw [sameF_no1 ha, sameF_no2 ha]
  | true =>
    cases hb : fv b with
    | false => rw [sameF_no1 hb, sameF_no2 hb]
    | true =>
      rw [Bool.eq_iff_iff, sameF_of ha hb, sameF_of hb ha]
      constructor
      · intro h r hr
        rw [alike_symm]
        exact h r (List.mem_append.2 (List.mem_append.1 hr).symm)
      · intro h r hr
        rw [alike_symm]
        exact h r (List.mem_append.2 (List.mem_append.1 hr).symm)
theorem sameF_self {a : List Fwd} (h : fv a = true) : sameF a a = true := (sameF_of h h).2 fun r _ => alike_of.2 ⟨rfl, rfl⟩
theorem same_endless {a b : List Fwd} (ha : fv a = true) (hb : fv b = true) (h : ∀ r ∈ a ++ b, alike a b r.1 = true) : endless a = endless b := by
  rw [endless_yes ha, endless_yes hb]
  refine srt_perm_eq (perm_of_mem (endT_nodup (fv_parts ha)) (endT_nodup (fv_parts hb)) fun c => ?_)
  rw [mem_endT, mem_endT]
  constructor
  · rintro ⟨h1, h2⟩
    obtain ⟨r, hr, rfl⟩ := List.mem_map.1 h1
    have h3 := (alike_none (h r (List.mem_append_left _ hr))).1 h2
    obtain ⟨d, hd⟩ := endless_order (rs := b) (c := r.1) (by rw [endF, h3]; rfl)
    exact ⟨List.mem_map.2 ⟨_, nextF_mem hd, rfl⟩, h3⟩
  · rintro ⟨h1, h2⟩
    obtain ⟨r, hr, rfl⟩ := List.mem_map.1 h1
    have h3 := (alike_none (h r (List.mem_append_right _ hr))).2 h2
    obtain ⟨d, hd⟩ := endless_order (rs := a) (c := r.1) (by rw [endF, h3]; rfl)
    exact ⟨List.mem_map.2 ⟨_, nextF_mem hd, rfl⟩, h3⟩
/-- The law's own test. -/
theorem same_law {a b : List Fwd} (ha : fv a = true) (hb : fv b = true) : sameF a b = (decide (endless a = endless b) && (a ++ b).all fun r => alike a b r.1) := by
  rw [sameF, ha, hb, Bool.and_self, Bool.true_and]
  cases hq : (a ++ b).all (fun r => alike a b r.1) with
  | false => rw [Bool.and_false]
  | true => rw [decide_eq_true (same_endless ha hb (List.all_eq_true.1 hq))]; rfl

/- Letters forwarded. -/
def sentT (xs : List Fwd) (b : List Ltr) : List Ltr := b.filterMap fun l => (resolve xs l.2).map fun p => (l.1, p.1)
def stuckT (xs : List Fwd) (b : List Ltr) : List Ltr := b.filter fun l => (resolve xs l.2).isNone
theorem sentT_yes {xs : List Fwd} {b : List Ltr} {k : Nat} {x : Ltr} {p : ByteArray × Nat} (hx : b[k]? = some x) (h : resolve xs x.2 = some p) : sentT xs (b.take (k + 1)) = sentT xs (b.take k) ++ [(x.1, p.1)] := by
  rw [sentT, sentT, take_snoc hx, List.filterMap_append]; simp [h]
theorem sentT_no {xs : List Fwd} {b : List Ltr} {k : Nat} {x : Ltr} (hx : b[k]? = some x) (h : resolve xs x.2 = none) : sentT xs (b.take (k + 1)) = sentT xs (b.take k) := by
  rw [sentT, sentT, take_snoc hx, List.filterMap_append]; simp [h]
theorem stuckT_yes {xs : List Fwd} {b : List Ltr} {k : Nat} {x : Ltr} {p : ByteArray × Nat} (hx : b[k]? = some x) (h : resolve xs x.2 = some p) : stuckT xs (b.take (k + 1)) = stuckT xs (b.take k) := by
  rw [stuckT, stuckT, take_snoc hx, List.filter_append]; simp [h]
theorem stuckT_no {xs : List Fwd} {b : List Ltr} {k : Nat} {x : Ltr} (hx : b[k]? = some x) (h : resolve xs x.2 = none) : stuckT xs (b.take (k + 1)) = stuckT xs (b.take k) ++ [x] := by
  rw [stuckT, stuckT, take_snoc hx, List.filter_append]; simp [h]
theorem sentT_len (xs : List Fwd) (b : List Ltr) : (sentT xs b).length ≤ b.length := List.length_filterMap_le _ _
theorem stuckT_len (xs : List Fwd) (b : List Ltr) : (stuckT xs b).length ≤ b.length := List.length_filter_le _ _
theorem sent_ids (xs : List Fwd) (b : List Ltr) : ((sentT xs b).map (·.1)).Sublist (b.map (·.1)) := by
  induction b with
  | nil => exact List.Sublist.refl _
  | cons x b ih =>
    cases hr : resolve xs x.2 with
    | none => simp only [sentT, List.filterMap_cons, hr, Option.map_none, List.map_cons] at ih ⊢; exact ih.cons _
    | some p => simp only [sentT, List.filterMap_cons, hr, Option.map_some, List.map_cons] at ih ⊢; exact ih.cons_cons _
theorem mem_sent {xs : List Fwd} {b : List Ltr} {x : Ltr} (h : x ∈ sentT xs b) : ∃ l ∈ b, x.1 = l.1 ∧ ∃ n, resolve xs l.2 = some (x.2, n) := by
  obtain ⟨l, hl, he⟩ := List.mem_filterMap.1 h
  cases hr : resolve xs l.2 with
  | none => rw [hr] at he; cases he
  | some p =>
    rw [hr] at he
    injection he with he
    subst he
    exact ⟨l, hl, rfl, p.2, hr⟩
theorem sent_bv {xs : List Fwd} {b : List Ltr} (h : fv xs = true) (hb : bv b = true) : bv (sentT xs b) = true := by
  obtain ⟨h1, h2, h3⟩ := bv_parts hb
  refine bv_mk (Nat.le_trans (sentT_len xs b) h1) (fun x hx => ?_) (h3.sublist (sent_ids xs b))
  obtain ⟨l, hl, e, n, hn⟩ := mem_sent hx
  have := h2 l hl
  exact ⟨ends_code (fv_parts h) this.1 (resolve_iff.1 hn), by omega, by omega⟩
theorem stuck_bv {xs : List Fwd} {b : List Ltr} (hb : bv b = true) : bv (stuckT xs b) = true := bv_sub hb List.filter_sublist
theorem sent_stay {ds : List Fwd} : ∀ {x : List Ltr}, (∀ l ∈ x, nextF ds l.2 = none) → sentT ds x = x ∧ stuckT ds x = []
  | [], _ => ⟨rfl, rfl⟩
  | l :: x, h => by
    obtain ⟨h1, h2⟩ := sent_stay (ds := ds) (x := x) fun y hy => h y (by simp [hy])
    have hr := resolve_stay (h l (by simp))
    constructor
    · simp only [sentT, List.filterMap_cons, hr, Option.map_some] at h1 ⊢; rw [h1]
    · simp only [stuckT, List.filter_cons, hr] at h2 ⊢; simpa using h2
theorem sent_last {xs : List Fwd} {b : List Ltr} {l : Ltr} (h : l ∈ sentT xs b) : nextF xs l.2 = none := by
  obtain ⟨m, _, _, n, hn⟩ := mem_sent h
  exact ends_last (resolve_iff.1 hn)
theorem sent_again (xs : List Fwd) (b : List Ltr) : sentT xs (sentT xs b) = sentT xs b ∧ stuckT xs (sentT xs b) = [] := sent_stay fun l hl => sent_last hl
theorem sent_direct {xs : List Fwd} (h : fv xs = true) (b : List Ltr) : sentT (direct xs) (sentT xs b) = sentT xs b ∧ stuckT (direct xs) (sentT xs b) = [] := sent_stay fun l hl => direct_stay h (sent_last hl)
theorem sent_count (xs : List Fwd) (b : List Ltr) : (sentT xs b).length + (stuckT xs b).length = b.length := by
  induction b with
  | nil => rfl
  | cons x b ih =>
    cases hr : resolve xs x.2 with
    | none => simp only [sentT, stuckT, List.filterMap_cons, List.filter_cons, hr, Option.map_none] at ih ⊢; simp; omega
    | some p => simp only [sentT, stuckT, List.filterMap_cons, List.filter_cons, hr, Option.map_some] at ih ⊢; simp; omega
/-- The next letter that is sent. -/
theorem sent_get {xs : List Fwd} {b : List Ltr} {k : Nat} {x : Ltr} {p : ByteArray × Nat} (hx : b[k]? = some x) (h : resolve xs x.2 = some p) : (sentT xs b)[(sentT xs (b.take k)).length]? = some (x.1, p.1) := by
  have e : sentT xs b = sentT xs (b.take (k + 1)) ++ sentT xs (b.drop (k + 1)) := by
    rw [sentT, sentT, sentT, ← List.filterMap_append, List.take_append_drop]
  rw [e, sentT_yes hx h]
  simp
theorem stuck_place {xs : List Fwd} {b : List Ltr} (hb : bv b = true) {k : Nat} {x : Ltr} (hx : b[k]? = some x) (h : resolve xs x.2 = none) : 0 ≤ findI (stuckT xs b) x.1 :=
  (findI_mem (stuck_bv hb)).2 ⟨x, List.mem_filter.2 ⟨List.mem_of_getElem? hx, by rw [h]; rfl⟩, rfl⟩
def fbOk (xs : List Fwd) (b : List Ltr) : Bool := fv xs && bv b
def fbS (xs : List Fwd) (b : List Ltr) : List Ltr := if fbOk xs b then sentT xs b else []
def fbT (xs : List Fwd) (b : List Ltr) : List Ltr := if fbOk xs b then stuckT xs b else []
theorem fb_no {xs : List Fwd} {b : List Ltr} (h : fbOk xs b = false) : fbS xs b = [] ∧ fbT xs b = [] := by simp [fbS, fbT, h]
theorem fb_no1 {xs : List Fwd} {b : List Ltr} (h : fv xs = false) : fbOk xs b = false := by simp [fbOk, h]
theorem fb_no2 {xs : List Fwd} {b : List Ltr} (h : bv b = false) : fbOk xs b = false := by simp [fbOk, h]
theorem fb_yes {xs : List Fwd} {b : List Ltr} (h1 : fv xs = true) (h2 : bv b = true) : fbOk xs b = true ∧ fbS xs b = sentT xs b ∧ fbT xs b = stuckT xs b := by simp [fbS, fbT, fbOk, h1, h2]
theorem fbS_len (xs : List Fwd) (b : List Ltr) : (fbS xs b).length ≤ b.length := by
  unfold fbS; split
  · exact sentT_len xs b
  · simp
theorem fbT_len (xs : List Fwd) (b : List Ltr) : (fbT xs b).length ≤ b.length := by
  unfold fbT; split
  · exact stuckT_len xs b
  · simp
end Go.Proofs.Ytefgfdehinpbaaa
