
/- The walks of the reference's sorting of letters: bins, collected bins. -/
import Derived.Test.YtaadjjadpacclaaTy8
import Derived.Test.YtaadjjadpacclaaTy6
import Derived.Test.YtaadjjadpacclaaDraw2
namespace Go.Proofs.Ytaadjjadpacclaa
open Go.RowKit
set_option linter.unusedVariables false
attribute [local go_sem ↓] Go.wp_at_zero Go.wp_at_succ

theorem flat_set {α : Type} {x : α} : ∀ {xss : List (List α)} {m : Nat} {t : List α}, xss[m]? = some t → (xss.set m (t ++ [x])).flatten.length = xss.flatten.length + 1 ∧ ∀ y ∈ (xss.set m (t ++ [x])).flatten, y ∈ xss.flatten ∨ y = x
  | [], m, t, h => by simp at h
  | l :: xss, 0, t, h => by
    simp only [List.getElem?_cons_zero, Option.some.injEq] at h
    subst h
    rw [List.set_cons_zero, List.flatten_cons, List.flatten_cons]
    refine ⟨by simp; omega, fun y hy => ?_⟩
    rcases List.mem_append.1 hy with hy | hy
    · rcases List.mem_append.1 hy with hy | hy
      · exact .inl (List.mem_append.2 (.inl hy))
      · simp at hy; exact .inr hy
    · exact .inl (List.mem_append.2 (.inr hy))
  | l :: xss, m + 1, t, h => by
    obtain ⟨h1, h2⟩ := flat_set (x := x) (xss := xss) (m := m) (t := t) (by simpa using h)
    rw [List.set_cons_succ, List.flatten_cons, List.flatten_cons, List.length_append, List.length_append, h1]
    refine ⟨by omega, fun y hy => ?_⟩
    rcases List.mem_append.1 hy with hy | hy
    · exact .inl (List.mem_append.2 (.inl hy))
    · rcases h2 y hy with h | h
      · exact .inl (List.mem_append.2 (.inr h))
      · exact .inr h
theorem rows_nil10 {w : World} {lo hi : Nat} : RowsL w lo hi (List.replicate 10 (.slice none 0 0)) (List.replicate 10 []) := by
  refine ⟨rfl, fun i u ys h1 h2 => ?_, fun i j u u' _ h1 h2 => ?_⟩
  · rw [List.getElem?_replicate] at h1 h2
    split at h1
    · injection h1 with h1
      rw [if_pos (by assumption)] at h2
      injection h2 with h2
      subst h1 h2
      exact own_nil _ _ _ _ _
    · cases h1
  · rw [List.getElem?_replicate] at h1
    split at h1
    · injection h1 with h1
      subst h1
      intro g hg
      simp [Value.ownBlock] at hg
    · cases h1
theorem dig_at {s : ByteArray} (h : digs s = true) {d : Nat} (hd : d < s.size) : ∃ m : Nat, (s[d].toNat : Int) - 48 = (m : Int) ∧ m < 10 := by
  have hx : s[d] ∈ s.data.toList := List.mem_of_getElem? (byte_at s d hd)
  unfold digs at h
  rw [List.all_eq_true] at h
  have := digB_true.1 (h _ hx)
  exact ⟨s[d].toNat - 48, by omega, by omega⟩

set_option maxRecDepth 100000 in
set_option maxHeartbeats 3200000 in
theorem bins_any (v : Value) (xs : List Ltr) (d : Nat) (w : World) (h : Lt w v xs) (hl : xs.length ≤ 61) (hc : ∀ x ∈ xs, x.2.size = 7 ∧ digs x.2 = true) (hd : d < 7) :
    Calls Try.prog 42 #[v, .int .i64 d] w fun e w' => ∃ (u : Value) (xss : List (List Ltr)), e = .returned u ∧ LtS w' u xss ∧ xss.flatten.length = xs.length ∧ (∀ y ∈ xss.flatten, y ∈ xs) ∧ Below w.heap.size w w' := by
  obtain ⟨A, c, rfl, hA, hc1, hc2⟩ := h
  unfold maxLen at hc2
  have HA := Lib.hid hA
  have Hc := Lib.hid hc
  clear hA hc
  obtain ⟨i0, hi, hz0, hz1, hz2⟩ := info_parts trays_info
  go_enter Try.func42, Try.ntmps42
  go_wp2_with (at_make; refine wpList_make_full _ rfl _ _ _ rfl w.heap.size 23 i0 _ 1 Try.underlying26 hi hz0 hz1 _ _ _ _ 10 rfl rfl rfl rfl (by rw [hz2]; omega) (by unfold maxLen; omega) (Nat.le_refl _) ?_; intro w1 hown1 hg1)
  have hb1 : Below w.heap.size w w1 := (Below.refl _ _).grown hg1 (Nat.le_refl _) (by simp)
  have Hb1 := Lib.hid hb1
  have hmade : (madeCells (Value.slice none 0 0).cells (10 * 1)).toList = List.replicate 10 (.slice none 0 0) := by
    have h : (Value.slice none 0 0).cells = #[.slice none 0 0] := rfl
    rw [h, Nat.mul_one, made_toList]
  rw [hmade] at hown1
  have H0 : Hid (∃ us xss, us.length = 10 ∧ w1.ownsRow w.heap.size 23 1 (.slice (some ⟨w.heap.size, 0, none⟩) 10 10) 10 us ∧ RowsL w1 w.heap.size w1.heap.size us xss ∧ xss.flatten.length = 0 ∧ ∀ y ∈ xss.flatten, y ∈ xs) := Lib.hid ⟨List.replicate 10 (.slice none 0 0), List.replicate 10 [], rfl, hown1, rows_nil10, by simp, by simp⟩
  clear hown1 hg1 hmade hb1
  go_wp2_with fail
  go_loopw [6] (fun i wr => ∃ k : Nat, k ≤ xs.length ∧ i = .int .i64 k ∧ Hid (Below w.heap.size w wr) ∧ Hid (∃ us xss, us.length = 10 ∧ wr.ownsRow w.heap.size 23 1 (.slice (some ⟨w.heap.size, 0, none⟩) 10 10) 10 us ∧ RowsL wr w.heap.size wr.heap.size us xss ∧ xss.flatten.length = k ∧ ∀ y ∈ xss.flatten, y ∈ xs)) (fun i _ => xs.length - (intOf i).toNat)
  case atStart => exact ⟨0, Nat.zero_le _, rfl, Hb1, H0⟩
  case round =>
    obtain ⟨k, hk, rfl, Hb, Hz⟩ := hrel
    clear H0 Hb1
    by_cases hlt : k < xs.length
    · obtain ⟨us, xss, hul, hown, hrows, hfk, hfm⟩ := Hz.out
      obtain ⟨ad, x, rfl, hx, hcA, hcB⟩ := (HA.out.below Hb.out).two hlt
      have hsz := Hc.out x (List.mem_of_getElem? hx)
      have hdl : d < x.2.size := by omega
      obtain ⟨m, em, hm10⟩ := dig_at hsz.2 hdl
      have hmi : (m : Int) < 10 := by omega
      obtain ⟨u, hu⟩ : ∃ u, us[m]? = some u := ⟨_, List.getElem?_eq_getElem (by omega)⟩
      obtain ⟨t, ht⟩ : ∃ t, xss[m]? = some t := ⟨_, List.getElem?_eq_getElem (by have := hrows.len; omega)⟩
      obtain ⟨UC, UCP, hue, _, _, _, _⟩ := own_form (hrows.row m u t hu ht).row
      subst hue
      have htl : t.length ≤ 61 := by
        have := List.Sublist.length_le (List.sublist_flatten_of_mem (List.mem_of_getElem? ht))
        omega
      have Hx := Lib.hid hx
      have HTb := Hb
      have HT1 := Lib.hid hown
      have HT2 := Lib.hid hrows
      have HTu := Lib.hid hu
      have HTx := Lib.hid ht
      have Hul := Lib.hid hul
      have Hfk := Lib.hid hfk
      have Hfm := Lib.hid hfm
      simp only [ltf] at hcA hcB
      clear hx hown hrows hu ht hul hfk hfm hsz
      go_wp2_with fail
      have hmn : m < 10 := by omega
      have B2 : Below (wr).heap.size wr ((wr).alloc (.cells #[.int .i64 x.1, .string x.2] 31)).drew := ((Below.refl _ _).alloc (Nat.le_refl _) _).drew
      have T2 := Lib.hid (own_below HT1.out B2)
      have R2 := Lib.hid (HA.out.below (below_step HTb.out HTb.out.size B2))
      have U2 := Lib.hid ((HT2.out.row _ _ _ HTu.out HTx.out).below B2).row
      have N2 : Hid (Rd ((wr).alloc (.cells #[.int .i64 x.1, .string x.2] 31)).drew (some ⟨(wr).heap.size, 0, none⟩) (lcs [x])) := Lib.hid ((rd_new wr (lcs [x]) 31).below (below_of_drewN _ 1))
      have Z2 := Lib.hid (Nat.le_trans HTb.out.size B2.size)
      have HB2 := Lib.hid B2
      clear B2
      obtain ⟨cU, cA, cB⟩ := tri HT1.out hmn HTu.out (HA.out.below HTb.out) Hx.out
      have cU2 : ((wr).alloc (.cells #[.int .i64 x.1, .string x.2] 31)).cell? ⟨w.heap.size, m, none⟩ = some (.slice UC (t.length) UCP) := (T2.out.cellAt m (by omega)).trans HTu.out
      have hGG : w.heap.size ≤ (⟨w.heap.size, m, none⟩ : Addr).block := (HT1.out.lt w.heap.size rfl).1
      clear cA cB
      have cU1 : (wr).cell? ⟨w.heap.size, m, none⟩ = some (.slice UC (t.length) UCP) := cU
      obtain ⟨cA, cB⟩ := two_at (HA.out.below HTb.out) Hx.out
      obtain ⟨cA2, cB2⟩ := two_at R2.out Hx.out
      have dA := cA
      have dB := cB
      have dA2 := cA2
      have dB2 := cB2
      try simp only [Nat.zero_mul, Addr.add_zero'] at dA dB dA2 dB2
      go_region_law ((refine step_append_rd (by rfl) (.tmp 29) (.tmp 34) 23 (by rfl) ltr_elem (base := w.heap.size) (.slice UC (t.length) UCP) (t.length) (lcs (t)) (by rfl) U2.out (some ⟨(wr).heap.size, 0, none⟩) 1 1 (lcs [x]) (by rfl) (by rfl) N2.out (lcs_oneCell _) (by unfold maxLen; omega) (by omega) Z2.out ?_; intro u6 w6 hown6 hg6 hm6; obtain ⟨g6, cp6, rfl, hg6b⟩ := own_pos' hown6 (by omega); have B6 : Hid (Below w.heap.size w w6) := Lib.hid ((below_step HTb.out HTb.out.size HB2.out).grown hg6 Z2.out (fun g e => (U2.out.lt g e).1)); have B7 := Lib.hid (B6.out.setCell hGG (.slice (some ⟨g6, 0, none⟩) (t.length + 1) cp6)); have o6 := Lib.hid (T2.out.kept hg6 (apart_row (own_apart_type T2.out U2.out ne_types.symm))); have f6 : w6.frozen? ⟨w.heap.size, m, none⟩ = false := o6.out.frozenAt _; have c6 := (o6.out.cellAt m (by omega)).trans HTu.out))
      all_goals
        (go_wp2_with fail
         have h3 : w6.ownsRow w.heap.size 31 2 (.slice (some ⟨g6, 0, none⟩) (t.length + 1) cp6) (t ++ [x]).length (lcs (t ++ [x])) := by rw [List.length_append, lcs_snoc]; exact hown6
         have s7 := o6.out.stored m (.slice (some ⟨g6, 0, none⟩) (t.length + 1) cp6)
         have hfin := tray_more HTb.out.size HT1.out HT2.out HTu.out HTx.out HB2.out h3 hg6 hm6 s7.1 s7.2
         have hfl := flat_set (x := x) HTx.out
         have Hz : Hid (∃ us xss, us.length = 10 ∧ (w6.setCell ⟨w.heap.size, m, none⟩ (.slice (some ⟨g6, 0, none⟩) (t.length + 1) cp6)).ownsRow w.heap.size 23 1 (.slice (some ⟨w.heap.size, 0, none⟩) 10 10) 10 us ∧ RowsL (w6.setCell ⟨w.heap.size, m, none⟩ (.slice (some ⟨g6, 0, none⟩) (t.length + 1) cp6)) w.heap.size (w6.setCell ⟨w.heap.size, m, none⟩ (.slice (some ⟨g6, 0, none⟩) (t.length + 1) cp6)).heap.size us xss ∧ xss.flatten.length = k + 1 ∧ ∀ y ∈ xss.flatten, y ∈ xs) := Lib.hid ⟨_, _, by rw [List.length_set]; exact Hul.out, hfin.1, hfin.2, by rw [hfl.1, Hfk.out], fun y hy => by
           rcases hfl.2 y hy with h | h
           · exact Hfm.out y h
           · rw [h]; exact List.mem_of_getElem? Hx.out⟩
         clear h3 s7 hfin hfl
         go_roundw
         case rel => exact ⟨k + 1, by omega, by go_num, B7, Hz⟩
         case measure => simp [intOf]; omega)
    · have hk' : k = xs.length := by omega
      subst hk'
      obtain ⟨us, xss, hul, hown, hrows, hfk, hfm⟩ := Hz.out
      have hlts : LtS wr (.slice (some ⟨w.heap.size, 0, none⟩) 10 10) xss := OLL.lts (lo := w.heap.size) (hi := wr.heap.size) ⟨us, by rw [hul]; exact own_of hown, hrows⟩
      have Hres := Lib.hid (And.intro hlts (And.intro hfk hfm))
      clear hul hown hrows hfk hfm hlts Hz
      go_wp2_with fail
      go_ret
      exact ⟨_, xss, rfl, Hres.out.1, Hres.out.2.1, Hres.out.2.2, Hb.out⟩

/-- The letters of a sorted list are those of the list. -/
structure Sub7 (ys xs : List Ltr) : Prop where
  len : ys.length = xs.length
  mem : ∀ y ∈ ys, y ∈ xs
theorem Sub7.refl (xs : List Ltr) : Sub7 xs xs := ⟨rfl, fun _ h => h⟩
theorem Sub7.trans {zs ys xs : List Ltr} (h : Sub7 zs ys) (k : Sub7 ys xs) : Sub7 zs xs := ⟨h.len.trans k.len, fun y hy => k.mem y (h.mem y hy)⟩

set_option maxRecDepth 100000 in
set_option maxHeartbeats 1600000 in
theorem sort_any (v : Value) (xs : List Ltr) (B : Option Addr) (ds : List Int) (dc : Nat) (w : World) (h : Lt w v xs) (hB : Rd w B (ints ds)) (hl : xs.length ≤ 61) (hc : ∀ x ∈ xs, x.2.size = 7 ∧ digs x.2 = true) (hd : ∀ x ∈ ds, 0 ≤ x ∧ x < 7) (hd7 : ds.length ≤ 7) :
    Calls Try.prog 32 #[v, .slice B ds.length dc] w fun e w' => ∃ (u : Value) (ys : List Ltr), e = .returned u ∧ Own w' w.heap.size w'.heap.size 31 2 u ys.length (lcs ys) ∧ Sub7 ys xs ∧ Below w.heap.size w w' := by
  obtain ⟨A, c, rfl, hA, hc1, hc2⟩ := h
  unfold maxLen at hc2
  obtain ⟨wa, hwa⟩ : ∃ wa, wa = w.alloc (.cells #[] 31) := ⟨_, rfl⟩
  have hba : Below w.heap.size w wa := by rw [hwa]; exact (Below.refl _ _).alloc (Nat.le_refl _) _
  have Hoa : Hid (wa.ownsRow w.heap.size 31 2 (.slice (some ⟨w.heap.size, 0, none⟩) 0 0) 0 (lcs [])) := Lib.hid (by rw [hwa]; exact World.ownsRow_lit w #[] 0 (Nat.le_refl _) (Nat.zero_le _) rfl)
  have HAa := Lib.hid (hA.below hba)
  have Hba := Lib.hid hba
  have HB := Lib.hid hB
  have Hc := Lib.hid hc
  have Hd := Lib.hid hd
  clear hA hba hB hc hd
  go_enter Try.func32, Try.ntmps32
  go_wp2_with (at_builtin; simp only [← hwa]; refine wpList_append_rd rfl (.tmp 7) (.tmp 8) 23 rfl ltr_elem (base := w.heap.size) (.slice (some ⟨w.heap.size, 0, none⟩) 0 0) 0 (lcs []) rfl Hoa.out A xs.length c (lcs xs) rfl (cs2_length _) HAa.out (lcs_oneCell _) (by unfold maxLen; omega) (by omega) Hba.out.size ?_; intro v5 w5 hown5 hg5 hm5)
  have Hb5 : Hid (Below w.heap.size w w5) := Lib.hid (Hba.out.grown hg5 Hba.out.size (fun g e => (Hoa.out.lt g e).1))
  have Ho5 : Hid (∃ ys, Own w5 w.heap.size w5.heap.size 31 2 v5 ys.length (lcs ys) ∧ Sub7 ys xs) := Lib.hid ⟨xs, own_of (by have h := hown5; rw [Nat.zero_add] at h; exact h), Sub7.refl xs⟩
  clear hown5 hg5 hm5 Hoa HAa Hba hwa
  go_wp2_with fail
  go_loopw [5, 6] (fun o i wr => ∃ (m : Nat) (u0 : Value), m ≤ ds.length ∧ i = .int .i64 ((m : Int) - 1) ∧ u0 = o ∧ Hid (Below w.heap.size w wr) ∧ Hid (∃ ys, Own wr w.heap.size wr.heap.size 31 2 u0 ys.length (lcs ys) ∧ Sub7 ys xs)) (fun _ i _ => (intOf i + 1).toNat)
  case atStart => exact ⟨ds.length, _, Nat.le_refl _, rfl, rfl, Hb5, Ho5⟩
  case round =>
    obtain ⟨m, u0, hm, rfl, rfl, Hb, Ho⟩ := hrel
    clear Hb5 Ho5
    cases m with
    | zero =>
      obtain ⟨ys, ho, hs⟩ := Ho.out
      have Hos := Lib.hid (And.intro ho hs)
      clear ho hs Ho
      go_wp2_with fail
      go_ret
      exact ⟨_, ys, rfl, Hos.out.1, Hos.out.2, Hb.out⟩
    | succ m =>
      obtain ⟨ys, ho, hs⟩ := Ho.out
      obtain ⟨bd, x, rfl, hx, hcx⟩ := (HB.out.below Hb.out).int (k := m) (by omega)
      have hxd := Hd.out x (List.mem_of_getElem? hx)
      obtain ⟨d, hdx⟩ : ∃ d : Nat, x = (d : Int) := ⟨x.toNat, by omega⟩
      subst hdx
      have em : ((m + 1 : Nat) : Int) - 1 = (m : Int) := by omega
      rw [em]
      have hmd : (m : Int) < (ds.length : Int) := by omega
      have hm0 : (0 : Int) ≤ (m : Int) := by omega
      have H1 := Lib.hid (bins_any u0 ys d wr ho.sl (by have := hs.len; omega) (fun y hy => Hc.out y (hs.mem y hy)) (by omega))
      have Hs := Lib.hid hs
      clear hx hxd ho hs Ho em
      go_wp2_with fail
      refine H1.out.mono ?_
      rintro e w2 ⟨z, xss, rfl, hz, hzl, hzm, hb2⟩
      have H2 := Lib.hid (joinS z xss w2 hz (by have := Hs.out.len; omega))
      have Hb2 := Lib.hid (below_trans' Hb.out hb2)
      have Hz := Lib.hid (And.intro hzl hzm)
      clear hz hzl hzm hb2 H1
      go_wp2_with fail
      refine H2.out.mono ?_
      rintro e w3 ⟨y, rfl, hy, hb3⟩
      have Hb3 := Lib.hid (below_trans' Hb2.out hb3)
      have Ho3 : Hid (∃ ys, Own w3 w.heap.size w3.heap.size 31 2 y ys.length (lcs ys) ∧ Sub7 ys xs) := Lib.hid ⟨_, hy.wide Hb2.out.size (Nat.le_refl _), Sub7.trans ⟨Hz.out.1, Hz.out.2⟩ Hs.out⟩
      clear hy hb3 H2
      go_wp2_with fail
      go_roundw
      case rel => exact ⟨m, _, by omega, by go_num, rfl, Hb3, Ho3⟩
      case measure => first | (simp [intOf]; done) | (simp [intOf]; omega)

set_option maxRecDepth 100000 in
set_option maxHeartbeats 1600000 in
theorem sortbatch_any (v : Value) (xs : List Ltr) (w : World) (h : Lt w v xs) (hs : Szs xs) (hl : xs.length ≤ 61) (hv : bv xs = true) :
    Calls Try.prog 19 #[v] w fun e w' => ∃ (u : Value) (ys : List Ltr), e = .returned (.tuple #[u, .bool true]) ∧ Own w' w.heap.size w'.heap.size 31 2 u ys.length (lcs ys) ∧ Sub7 ys xs ∧ Below w.heap.size w w' := by
  have H := Lib.hid h
  have H1 := Lib.hid (spec_bv v xs w h hs)
  rw [hv] at H1
  have Hc : Hid (∀ x ∈ xs, x.2.size = 7 ∧ digs x.2 = true) := Lib.hid fun x hx => by have := ((bv_parts hv).2.1 x hx).1; simpa [codeB] using this
  clear h hs hv
  go_enter Try.func19, Try.ntmps19
  go_wp2_with fail
  refine H1.out.mono ?_
  rintro e w1 ⟨rfl, hb1⟩
  obtain ⟨wa, hwa⟩ : ∃ wa, wa = w1.alloc (.cells #[.int .i64 0, .int .i64 1, .int .i64 2, .int .i64 3, .int .i64 4, .int .i64 5, .int .i64 6] 3) := ⟨_, rfl⟩
  have hba : Below w1.heap.size w1 wa := by rw [hwa]; exact (Below.refl _ _).alloc (Nat.le_refl _) _
  have H2 := sort_any v xs (some ⟨w1.heap.size, 0, none⟩) [0, 1, 2, 3, 4, 5, 6] 7 wa ((H.out.below hb1).below hba) (by rw [hwa]; exact rd_lit w1 _ _) hl Hc.out (by intro x hx; simp at hx; omega) (by simp)
  rw [hwa] at H2
  have HH2 := Lib.hid H2
  have Hb1 := Lib.hid hb1
  have Hsz : Hid (w.heap.size ≤ wa.heap.size) := Lib.hid (Nat.le_trans hb1.size hba.size)
  have Hba := Lib.hid hba
  rw [hwa] at Hsz Hba
  clear H1 H2 hb1 hba hwa
  go_wp2_with fail
  refine HH2.out.mono ?_
  rintro e w2 ⟨u, ys, rfl, ho, hsub, hb2⟩
  have Hr := Lib.hid (And.intro (ho.wide Hsz.out (Nat.le_refl _)) (And.intro hsub (below_trans' Hb1.out (below_trans' Hba.out hb2))))
  clear ho hsub hb2 HH2
  go_wp2_with fail
  go_ret2
  exact ⟨_, ys, rfl, Hr.out.1, Hr.out.2.1, Hr.out.2.2⟩

end Go.Proofs.Ytaadjjadpacclaa
