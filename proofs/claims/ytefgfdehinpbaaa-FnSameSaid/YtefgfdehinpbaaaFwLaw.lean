
/- Plain lists: endless codes, direct orders, sources, and what the laws say of them. No program in sight. -/
import Derived.Test.YtefgfdehinpbaaaFwSort
namespace Go.Proofs.Ytefgfdehinpbaaa
open Go.RowKit
set_option linter.unusedVariables false

def froms (rs : List Fwd) : List ByteArray := rs.map (·.1)
theorem froms_nodup {rs : List Fwd} (h : Fv rs) : (froms rs).Nodup := h.nodup
theorem froms_len (rs : List Fwd) : (froms rs).length = rs.length := by simp [froms]
/-- The endless codes of the first k orders. -/
def endT (rs : List Fwd) (k : Nat) : List ByteArray := ((rs.take k).filter fun r => (resolve rs r.1).isNone).map (·.1)
theorem endT_zero (rs : List Fwd) : endT rs 0 = [] := rfl
theorem endT_yes {rs : List Fwd} {k : Nat} {x : Fwd} (hx : rs[k]? = some x) (h : resolve rs x.1 = none) : endT rs (k + 1) = endT rs k ++ [x.1] := by
  rw [endT, endT, take_snoc hx, List.filter_append, List.map_append]
  simp [h]
theorem endT_no {rs : List Fwd} {k : Nat} {x : Fwd} {p : ByteArray × Nat} (hx : rs[k]? = some x) (h : resolve rs x.1 = some p) : endT rs (k + 1) = endT rs k := by
  rw [endT, endT, take_snoc hx, List.filter_append, List.map_append]
  simp [h]
theorem endT_len (rs : List Fwd) (k : Nat) : (endT rs k).length ≤ rs.length := by
  rw [endT, List.length_map]
  refine Nat.le_trans (List.length_filter_le _ _) ?_
  rw [List.length_take]; omega
def endless (rs : List Fwd) : List ByteArray := if fv rs then srt (endT rs rs.length) else []
theorem endless_no {rs : List Fwd} (h : fv rs = false) : endless rs = [] := by simp [endless, h]
theorem endless_yes {rs : List Fwd} (h : fv rs = true) : endless rs = srt (endT rs rs.length) := by simp [endless, h]
theorem mem_endT {rs : List Fwd} {c : ByteArray} : c ∈ endT rs rs.length ↔ c ∈ froms rs ∧ resolve rs c = none := by
  rw [endT, List.take_length, froms]
  simp only [List.mem_map, List.mem_filter, Option.isNone_iff_eq_none]
  constructor
  · rintro ⟨r, ⟨h1, h2⟩, rfl⟩; exact ⟨⟨r, h1, rfl⟩, h2⟩
  · rintro ⟨⟨r, h1, rfl⟩, h2⟩; exact ⟨r, ⟨h1, h2⟩, rfl⟩
theorem endT_nodup {rs : List Fwd} (h : Fv rs) : (endT rs rs.length).Nodup := by
  rw [endT, List.take_length]
  exact h.nodup.sublist (List.filter_sublist.map _)
/-- An order sent to its end. -/
def dirE (rs : List Fwd) (c : ByteArray) : Option Fwd := (resolve rs c).map fun p => (c, p.1)
theorem dirE_some {rs : List Fwd} {c : ByteArray} {p : ByteArray × Nat} (h : resolve rs c = some p) : dirE rs c = some (c, p.1) := by simp [dirE, h]
theorem dirE_none {rs : List Fwd} {c : ByteArray} (h : resolve rs c = none) : dirE rs c = none := by simp [dirE, h]
/-- The orders sent to their ends, of a list of codes. -/
def dirL (rs : List Fwd) (cs : List ByteArray) : List Fwd := cs.filterMap (dirE rs)
theorem dirL_nil (rs : List Fwd) : dirL rs [] = [] := rfl
theorem dirL_yes {rs : List Fwd} {cs : List ByteArray} {k : Nat} {c : ByteArray} {p : ByteArray × Nat} (hx : cs[k]? = some c) (h : resolve rs c = some p) : dirL rs (cs.take (k + 1)) = dirL rs (cs.take k) ++ [(c, p.1)] := by
  rw [dirL, dirL, take_snoc hx, List.filterMap_append]
  simp [dirE, h]
theorem dirL_no {rs : List Fwd} {cs : List ByteArray} {k : Nat} {c : ByteArray} (hx : cs[k]? = some c) (h : resolve rs c = none) : dirL rs (cs.take (k + 1)) = dirL rs (cs.take k) := by
  rw [dirL, dirL, take_snoc hx, List.filterMap_append]
  simp [dirE, h]
theorem dirL_len (rs : List Fwd) (cs : List ByteArray) : (dirL rs cs).length ≤ cs.length := List.length_filterMap_le _ _
theorem froms_get {rs : List Fwd} {k : Nat} {x : Fwd} (hx : rs[k]? = some x) : (froms rs)[k]? = some x.1 := by simp [froms, hx]
theorem mem_dirL {rs : List Fwd} {cs : List ByteArray} {x : Fwd} : x ∈ dirL rs cs ↔ x.1 ∈ cs ∧ ∃ n, resolve rs x.1 = some (x.2, n) := by
  rw [dirL, List.mem_filterMap]
  constructor
  · rintro ⟨c, hc, h⟩
    unfold dirE at h
    cases hr : resolve rs c with
    | none => rw [hr] at h; cases h
    | some p =>
      rw [hr] at h
      injection h with h
      subst h
      exact ⟨hc, p.2, hr⟩
  · rintro ⟨hc, n, hr⟩
    exact ⟨x.1, hc, by rw [dirE_some hr]⟩
theorem dirL_froms (rs : List Fwd) (cs : List ByteArray) : froms (dirL rs cs) = cs.filter fun c => (resolve rs c).isSome := by
  induction cs with
  | nil => rfl
  | cons c cs ih =>
    rw [dirL] at ih
    cases hr : resolve rs c with
    | none => simp [dirL, dirE, froms, hr] at ih ⊢; exact ih
    | some p => simp [dirL, dirE, froms, hr] at ih ⊢; exact ih
def direct (rs : List Fwd) : List Fwd := if fv rs then dirL rs (srt (froms rs)) else []
theorem direct_no {rs : List Fwd} (h : fv rs = false) : direct rs = [] := by simp [direct, h]
theorem direct_yes {rs : List Fwd} (h : fv rs = true) : direct rs = dirL rs (srt (froms rs)) := by simp [direct, h]
theorem dirL_pair {rs : List Fwd} {cs : List ByteArray} (h : cs.Pairwise (fun a b => leB a b = true)) : (dirL rs cs).Pairwise (fun a b => leB a.1 b.1 = true) := by
  have h2 : (froms (dirL rs cs)).Pairwise (fun a b => leB a b = true) := by rw [dirL_froms]; exact h.sublist List.filter_sublist
  rw [froms, List.pairwise_map] at h2
  exact h2
/-- The sorted direct orders are one list. -/
theorem direct_uniq {rs ys : List Fwd} (h : fv rs = true) (hp : ys.Perm (dirL rs (froms rs))) (hs : ys.Pairwise (fun a b => leB a.1 b.1 = true)) : ys = direct rs := by
  rw [direct_yes h]
  have hq : (dirL rs (froms rs)).Perm (dirL rs (srt (froms rs))) := (srt_perm (froms rs)).symm.filterMap _
  refine (hp.trans hq).eq_of_pairwise (fun a b ha hb h1 h2 => ?_) hs (dirL_pair (srt_sorted _))
  have e1 := leB_anti h1 h2
  obtain ⟨_, n, hn⟩ := mem_dirL.1 ((hp.mem_iff).1 ha)
  obtain ⟨_, m, hm⟩ := mem_dirL.1 hb
  rw [e1, hm] at hn
  injection hn with hn
  injection hn with hn _
  exact Prod.ext e1 hn.symm
theorem direct_len (rs : List Fwd) : (direct rs).length ≤ rs.length := by
  unfold direct
  split
  · refine Nat.le_trans (dirL_len _ _) ?_
    rw [srt_length, froms_len]; exact Nat.le_refl _
  · simp
theorem mem_direct {rs : List Fwd} (h : fv rs = true) {x : Fwd} : x ∈ direct rs ↔ x.1 ∈ froms rs ∧ ∃ n, resolve rs x.1 = some (x.2, n) := by
  rw [direct_yes h, mem_dirL, mem_srt]
/-- The sources of a code. -/
def sources (rs : List Fwd) (c : ByteArray) : List ByteArray := ((direct rs).filter fun r => decide (r.2 = c)).map (·.1)
/-- .. of the first k direct orders. -/
def srcT (ds : List Fwd) (c : ByteArray) (k : Nat) : List ByteArray := ((ds.take k).filter fun r => decide (r.2 = c)).map (·.1)
theorem srcT_zero (ds : List Fwd) (c : ByteArray) : srcT ds c 0 = [] := rfl
theorem srcT_yes {ds : List Fwd} {c : ByteArray} {k : Nat} {x : Fwd} (hx : ds[k]? = some x) (h : x.2 = c) : srcT ds c (k + 1) = srcT ds c k ++ [x.1] := by
  rw [srcT, srcT, take_snoc hx, List.filter_append, List.map_append]
  simp [h]
theorem srcT_no {ds : List Fwd} {c : ByteArray} {k : Nat} {x : Fwd} (hx : ds[k]? = some x) (h : x.2 ≠ c) : srcT ds c (k + 1) = srcT ds c k := by
  rw [srcT, srcT, take_snoc hx, List.filter_append, List.map_append]
  simp [h]
theorem srcT_len (ds : List Fwd) (c : ByteArray) (k : Nat) : (srcT ds c k).length ≤ ds.length := by
  rw [srcT, List.length_map]
  refine Nat.le_trans (List.length_filter_le _ _) ?_
  rw [List.length_take]; omega
theorem srcT_full (rs : List Fwd) (c : ByteArray) : srcT (direct rs) c (direct rs).length = sources rs c := by
  rw [srcT, List.take_length, sources]
/-- The sources, one by one out of the orders. -/
def souT (rs : List Fwd) (c : ByteArray) (k : Nat) : List ByteArray := ((rs.take k).filter fun r => match resolve rs r.1 with | some p => decide (p.1 = c) | none => false).map (·.1)
theorem souT_zero (rs : List Fwd) (c : ByteArray) : souT rs c 0 = [] := rfl
theorem souT_yes {rs : List Fwd} {c : ByteArray} {k : Nat} {x : Fwd} {p : ByteArray × Nat} (hx : rs[k]? = some x) (h : resolve rs x.1 = some p) (hc : p.1 = c) : souT rs c (k + 1) = souT rs c k ++ [x.1] := by
  rw [souT, souT, take_snoc hx, List.filter_append, List.map_append]
  simp [h, hc]
theorem souT_no {rs : List Fwd} {c : ByteArray} {k : Nat} {x : Fwd} {p : ByteArray × Nat} (hx : rs[k]? = some x) (h : resolve rs x.1 = some p) (hc : p.1 ≠ c) : souT rs c (k + 1) = souT rs c k := by
  rw [souT, souT, take_snoc hx, List.filter_append, List.map_append]
  simp [h, hc]
theorem souT_none {rs : List Fwd} {c : ByteArray} {k : Nat} {x : Fwd} (hx : rs[k]? = some x) (h : resolve rs x.1 = none) : souT rs c (k + 1) = souT rs c k := by
  rw [souT, souT, take_snoc hx, List.filter_append, List.map_append]
  simp [h]
theorem souT_len (rs : List Fwd) (c : ByteArray) (k : Nat) : (souT rs c k).length ≤ rs.length := by
  rw [souT, List.length_map]
  refine Nat.le_trans (List.length_filter_le _ _) ?_
  rw [List.length_take]; omega
theorem sources_sorted (rs : List Fwd) (c : ByteArray) : (sources rs c).Pairwise (fun a b => leB a b = true) := by
  rw [sources, List.pairwise_map]
  refine List.Pairwise.sublist List.filter_sublist ?_
  unfold direct
  split
  · exact dirL_pair (srt_sorted _)
  · exact List.Pairwise.nil
theorem mem_sources {rs : List Fwd} (h : fv rs = true) {c d : ByteArray} : d ∈ sources rs c ↔ d ∈ froms rs ∧ ∃ n, resolve rs d = some (c, n) := by
  rw [sources]
  simp only [List.mem_map, List.mem_filter, decide_eq_true_eq]
  constructor
  · rintro ⟨r, ⟨h1, rfl⟩, rfl⟩
    exact (mem_direct h).1 h1
  · rintro ⟨h1, n, h2⟩
    exact ⟨(d, c), ⟨(mem_direct h).2 ⟨h1, n, h2⟩, rfl⟩, rfl⟩
theorem mem_souT {rs : List Fwd} {c d : ByteArray} : d ∈ souT rs c rs.length ↔ d ∈ froms rs ∧ ∃ n, resolve rs d = some (c, n) := by
  rw [souT, List.take_length, froms]
  simp only [List.mem_map, List.mem_filter]
  constructor
  · rintro ⟨r, ⟨h1, h2⟩, rfl⟩
    refine ⟨⟨r, h1, rfl⟩, ?_⟩
    cases hr : resolve rs r.1 with
    | none => rw [hr] at h2; cases h2
    | some p =>
      rw [hr] at h2
      have e : p.1 = c := by simpa using h2
      exact ⟨p.2, by rw [← e]⟩
  · rintro ⟨⟨r, h1, rfl⟩, n, h2⟩
    exact ⟨r, ⟨h1, by rw [h2]; simp⟩, rfl⟩
theorem sources_nodup {rs : List Fwd} (h : fv rs = true) (c : ByteArray) : (sources rs c).Nodup := by
  have h1 : (froms (direct rs)).Nodup := by
    rw [direct_yes h, dirL_froms]
    exact (srt_nodup (froms_nodup (fv_parts h))).sublist List.filter_sublist
  rw [sources]
  exact List.Nodup.sublist (List.filter_sublist.map _) h1
theorem souT_nodup {rs : List Fwd} (h : fv rs = true) (c : ByteArray) : (souT rs c rs.length).Nodup := by
  rw [souT, List.take_length]
  exact (froms_nodup (fv_parts h)).sublist (List.filter_sublist.map _)
theorem perm_of_mem {l m : List ByteArray} (h1 : l.Nodup) (h2 : m.Nodup) (h : ∀ c, c ∈ l ↔ c ∈ m) : l.Perm m := (List.perm_ext_iff_of_nodup h1 h2).2 h
theorem souT_srt {rs : List Fwd} (h : fv rs = true) (c : ByteArray) : srt (souT rs c rs.length) = sources rs c :=
  ((srt_perm_eq (perm_of_mem (sources_nodup h c) (souT_nodup h c) fun d => by rw [mem_sources h, mem_souT])).symm.trans (srt_idem (sources_sorted rs c)))
theorem sources_no {rs : List Fwd} {c : ByteArray} (h : fv rs = false) : sources rs c = [] := by simp [sources, direct_no h]
end Go.Proofs.Ytefgfdehinpbaaa
