
/- The walk that puts a code in at its place. -/
import Derived.Test.YtefgfdehinpbaaaFwSrt
namespace Go.Proofs.Ytefgfdehinpbaaa
open Go.RowKit
set_option linter.unusedVariables false

theorem bl_lt (a b : ByteArray) : Op.bytesLess a.toList b.toList = ltB a b := by
  rw [Go.Proofs.bytesLess_eq, ltB, tl_data, tl_data]
theorem insB_at {s x : ByteArray} : ∀ {l : List ByteArray}, (∀ y ∈ l, ltB s y = false) → ltB s x = true → insB (l ++ [x]) s = l ++ [s] ++ [x]
  | [], _, h => by simp [insB, h]
  | y :: l, hb, h => by
    have h0 := hb y (by simp)
    have ih := insB_at (s := s) (x := x) (l := l) (fun z hz => hb z (by simp [hz])) h
    simp [insB, h0, ih]
theorem insB_snoc {s x : ByteArray} : ∀ {l : List ByteArray}, (∃ y ∈ l, ltB s y = true) → insB (l ++ [x]) s = insB l s ++ [x]
  | [], h => by simp at h
  | y :: l, h => by
    cases hy : ltB s y with
    | true => simp [insB, hy]
    | false =>
      have h' : ∃ z ∈ l, ltB s z = true := by
        obtain ⟨z, hz, hz2⟩ := h
        rcases List.mem_cons.1 hz with rfl | hz
        · rw [hy] at hz2; cases hz2
        · exact ⟨z, hz, hz2⟩
      have ih := insB_snoc (s := s) (x := x) h'
      simp [insB, hy, ih]
theorem insB_last {s : ByteArray} {l : List ByteArray} (h : ∀ y ∈ l, ltB s y = false) : insB l s = l ++ [s] :=
  insB_end fun j _ y hy => h y (List.mem_of_getElem? hy)
/-- How far it has come: out of the first k. -/
def InsSt (ss : List ByteArray) (s : ByteArray) (k : Nat) (d : Bool) (out : List ByteArray) : Prop :=
  (d = false ∧ out = ss.take k ∧ ∀ y ∈ ss.take k, ltB s y = false) ∨ (d = true ∧ out = insB (ss.take k) s ∧ ∃ y ∈ ss.take k, ltB s y = true)
theorem len_snoc {α : Type} (l : List α) (x : α) : (l ++ [x]).length = l.length + 1 := by simp
theorem insSt_zero (ss : List ByteArray) (s : ByteArray) : InsSt ss s 0 false [] := .inl ⟨rfl, rfl, by simp⟩
theorem insSt_pass {ss out : List ByteArray} {s x : ByteArray} {k : Nat} (h : InsSt ss s k false out) (hx : ss[k]? = some x) (hl : ltB s x = false) : InsSt ss s (k + 1) false (out ++ [x]) := by
  rcases h with ⟨_, rfl, h⟩ | ⟨h, _⟩
  · refine .inl ⟨rfl, (take_snoc hx).symm, fun y hy => ?_⟩
    rw [take_snoc hx] at hy
    rcases List.mem_append.1 hy with hy | hy
    · exact h y hy
    · simp at hy; subst hy; exact hl
  · cases h
theorem insSt_put {ss out : List ByteArray} {s x : ByteArray} {k : Nat} (h : InsSt ss s k false out) (hx : ss[k]? = some x) (hl : ltB s x = true) : InsSt ss s (k + 1) true (out ++ [s] ++ [x]) := by
  rcases h with ⟨_, rfl, h⟩ | ⟨h, _⟩
  · exact .inr ⟨rfl, by rw [take_snoc hx, insB_at h hl], x, by rw [take_snoc hx]; simp, hl⟩
  · cases h
theorem insSt_more {ss out : List ByteArray} {s x : ByteArray} {k : Nat} (h : InsSt ss s k true out) (hx : ss[k]? = some x) : InsSt ss s (k + 1) true (out ++ [x]) := by
  rcases h with ⟨h, _⟩ | ⟨_, rfl, h⟩
  · cases h
  · obtain ⟨y, hy, hl⟩ := h
    exact .inr ⟨rfl, by rw [take_snoc hx, insB_snoc ⟨y, hy, hl⟩], y, by rw [take_snoc hx]; simp [hy], hl⟩
theorem insSt_len {ss out : List ByteArray} {s : ByteArray} {k : Nat} {d : Bool} (h : InsSt ss s k d out) : out.length ≤ ss.length + 1 := by
  rcases h with ⟨_, rfl, h⟩ | ⟨_, rfl, h⟩
  · rw [List.length_take]; omega
  · rw [insB_length, List.length_take]; omega
theorem insSt_end {ss out : List ByteArray} {s : ByteArray} {d : Bool} (h : InsSt ss s ss.length d out) : (d = false ∧ insB ss s = out ++ [s]) ∨ (d = true ∧ insB ss s = out) := by
  unfold InsSt at h
  rw [List.take_length] at h
  rcases h with ⟨h0, rfl, h⟩ | ⟨h0, rfl, h⟩
  · exact .inl ⟨h0, insB_last h⟩
  · exact .inr ⟨h0, rfl⟩
theorem str_at {w : World} {ad : Addr} {xs : List ByteArray} (h : Rd w (some ad) (strs xs)) {k : Nat} {x : ByteArray} (hx : xs[k]? = some x) : w.cell? (ad.add k) = some (.string x) := by
  obtain ⟨ad2, e, hc⟩ := h k _ (strs_get hx)
  injection e with e
  subst e; exact hc
theorem litS0 (w : World) : OS (w.alloc (.cells #[] 9)) w.heap.size (w.alloc (.cells #[] 9)).heap.size (.slice (some ⟨w.heap.size, 0, none⟩) 0 0) [] := own_of (World.ownsRow_lit w #[] 0 (Nat.le_refl _) (Nat.zero_le _) rfl)
/-- A new block with one string in it. -/
theorem newS (W : World) (x : ByteArray) : Below W.heap.size W (W.alloc (.cells #[.string x] 9)) ∧ Rd (W.alloc (.cells #[.string x] 9)) (some ⟨W.heap.size, 0, none⟩) (strs [x]) :=
  ⟨(Below.refl _ _).alloc (Nat.le_refl _) _, rd_new W (strs [x]) 9⟩

set_option maxRecDepth 100000 in
set_option maxHeartbeats 1600000 in
theorem ins_any (v : Value) (ss : List ByteArray) (s : ByteArray) (w : World) (h : IS w v ss) (hl : ss.length ≤ 100) :
    Calls Try.prog 54 #[v, .string s] w fun e w' => ∃ u, e = .returned u ∧ OS w' w.heap.size w'.heap.size u (insB ss s) ∧ Below w.heap.size w w' := by
  obtain ⟨A, c, rfl, hA, hc1, hc2⟩ := h
  unfold maxLen at hc2
  have HA := Lib.hid hA
  clear hA
  have Hb1 : Hid (Below w.heap.size w (w.alloc (.cells #[] 9))) := Lib.hid ((Below.refl _ _).alloc (Nat.le_refl _) _)
  have Ho1 : Hid ((w.alloc (.cells #[] 9)).ownsRow w.heap.size 9 1 (.slice (some ⟨w.heap.size, 0, none⟩) 0 0) ([] : List ByteArray).length (strs [])) := Lib.hid (litS0 w).row
  go_enter Try.func54, Try.ntmps54
  go_wp2_with fail
  go_loopw [5, 6, 7] (fun o d i wr => ∃ (k : Nat) (u0 : Value) (b : Bool) (out : List ByteArray), k ≤ ss.length ∧ i = .int .i64 k ∧ u0 = o ∧ d = .bool b ∧ Hid (Below w.heap.size w wr) ∧ Hid (wr.ownsRow w.heap.size 9 1 u0 out.length (strs out)) ∧ Hid (InsSt ss s k b out)) (fun _ _ i _ => ss.length - (intOf i).toNat)
  case atStart => exact ⟨0, _, false, [], Nat.zero_le _, rfl, rfl, rfl, Hb1, Ho1, Lib.hid (insSt_zero ss s)⟩
  case round =>
    obtain ⟨k, u0, b, out, hk, rfl, rfl, rfl, Hb, Ho, Hs⟩ := hrel
    clear Hb1 Ho1
    have hol := insSt_len Hs.out
    obtain ⟨C, cp, rfl, _, _, _, _⟩ := own_form Ho.out
    by_cases hlt : k < ss.length
    · obtain ⟨ad, x, rfl, hx, hcx⟩ := (HA.out.below Hb.out).str hlt
      have Hx := Lib.hid hx
      clear hx
      cases b with
      | true =>
        have Hs2 := Lib.hid (insSt_more Hs.out Hx.out)
        clear Hs
        go_wp2_with (at_builtin; refine wpList_append_rd rfl (.tmp 29) (.tmp 34) 29 rfl str_elem (base := w.heap.size) (.slice C out.length cp) out.length (strs out) rfl (own_below (Ho).out (newS wr x).1) (some ⟨(wr).heap.size, 0, none⟩) 1 1 (strs [x]) rfl rfl (newS wr x).2 (strs_oneCell _) (by unfold maxLen; omega) (by omega) (Nat.le_trans (Hb).out.size (newS wr x).1.size) ?_; intro v6 w6 hown6 hg6 hm6)
        have Hb6 := Lib.hid ((below_step Hb.out Hb.out.size (newS wr x).1).grown hg6 (Nat.le_trans Hb.out.size (newS wr x).1.size) (fun g e => (Ho.out.lt g e).1))
        have Ho6 : Hid (w6.ownsRow w.heap.size 9 1 v6 (out ++ [x]).length (strs (out ++ [x]))) := Lib.hid (by rw [List.length_append, strs_append]; exact hown6)
        clear hown6 hg6 hm6
        go_roundw
        case rel => exact ⟨k + 1, _, true, _, by omega, by go_num, rfl, rfl, Hb6, Ho6, Hs2⟩
        case measure => simp [intOf]; omega
      | false =>
        cases hsx : ltB s x with
        | false =>
          have e1 : Op.bytesLess s.toList x.toList = false := by rw [bl_lt]; exact hsx
          have Hs2 := Lib.hid (insSt_pass Hs.out Hx.out hsx)
          clear Hs hsx
          go_wp2_with (at_builtin; refine wpList_append_rd rfl (.tmp 29) (.tmp 34) 29 rfl str_elem (base := w.heap.size) (.slice C out.length cp) out.length (strs out) rfl (own_below (Ho).out (newS wr x).1) (some ⟨(wr).heap.size, 0, none⟩) 1 1 (strs [x]) rfl rfl (newS wr x).2 (strs_oneCell _) (by unfold maxLen; omega) (by omega) (Nat.le_trans (Hb).out.size (newS wr x).1.size) ?_; intro v6 w6 hown6 hg6 hm6)
          have Hb6 := Lib.hid ((below_step Hb.out Hb.out.size (newS wr x).1).grown hg6 (Nat.le_trans Hb.out.size (newS wr x).1.size) (fun g e => (Ho.out.lt g e).1))
          have Ho6 : Hid (w6.ownsRow w.heap.size 9 1 v6 (out ++ [x]).length (strs (out ++ [x]))) := Lib.hid (by rw [List.length_append, strs_append]; exact hown6)
          clear hown6 hg6 hm6
          go_roundw
          case rel => exact ⟨k + 1, _, false, _, by omega, by go_num, rfl, rfl, Hb6, Ho6, Hs2⟩
          case measure => simp [intOf]; omega
        | true =>
          have e1 : Op.bytesLess s.toList x.toList = true := by rw [bl_lt]; exact hsx
          have Hs2 := Lib.hid (insSt_put Hs.out Hx.out hsx)
          clear Hs hsx
          go_wp2_with (first | (at_builtin; refine wpList_append_rd rfl (.tmp 25) (.tmp 27) 29 rfl str_elem (base := w.heap.size) (.slice C (out).length cp) (out).length (strs out) rfl (own_below (Ho).out (newS wr s).1) (some ⟨(wr).heap.size, 0, none⟩) 1 1 (strs [s]) rfl rfl (newS wr s).2 (strs_oneCell _) (by unfold maxLen; omega) (by omega) (Nat.le_trans (Hb).out.size (newS wr s).1.size) ?_; intro v5 w5 hown5 hg5 hm5; have Hb5 : Hid (Below w.heap.size w w5) := Lib.hid ((below_step (Hb).out (Hb).out.size (newS wr s).1).grown hg5 (Nat.le_trans (Hb).out.size (newS wr s).1.size) (fun g e => ((Ho).out.lt g e).1)); have Ho5 : Hid (w5.ownsRow w.heap.size 9 1 v5 ((out).length + 1) (strs (out ++ [s]))) := Lib.hid (by rw [strs_append]; exact hown5); obtain ⟨C5, cp5, rfl, _, _, _, _⟩ := own_form Ho5.out; have hcx5 := str_at (HA.out.below Hb5.out) Hx.out; clear hown5 hg5 hm5) | (at_builtin; refine wpList_append_rd rfl (.tmp 29) (.tmp 34) 29 rfl str_elem (base := w.heap.size) (.slice C5 ((out).length + 1) cp5) ((out).length + 1) (strs (out ++ [s])) rfl (own_below (Ho5).out (newS w5 x).1) (some ⟨(w5).heap.size, 0, none⟩) 1 1 (strs [x]) rfl rfl (newS w5 x).2 (strs_oneCell _) (by unfold maxLen; omega) (by omega) (Nat.le_trans (Hb5).out.size (newS w5 x).1.size) ?_; intro v6 w6 hown6 hg6 hm6))
          have Hb6 := Lib.hid ((below_step Hb5.out Hb5.out.size (newS w5 x).1).grown hg6 (Nat.le_trans Hb5.out.size (newS w5 x).1.size) (fun g e => (Ho5.out.lt g e).1))
          have Ho6 : Hid (w6.ownsRow w.heap.size 9 1 v6 (out ++ [s] ++ [x]).length (strs (out ++ [s] ++ [x]))) := Lib.hid (by rw [len_snoc (out ++ [s]) x, len_snoc out s, strs_append (out ++ [s])]; exact hown6)
          clear hown6 hg6 hm6
          go_roundw
          case rel => exact ⟨k + 1, _, true, _, by omega, by go_num, rfl, by go_num, Hb6, Ho6, Hs2⟩
          case measure => simp [intOf]; omega
    · have hk' : k = ss.length := by omega
      subst hk'
      rcases insSt_end Hs.out with ⟨rfl, he⟩ | ⟨rfl, he⟩
      · have He := Lib.hid he
        clear he Hs
        go_wp2_with (at_builtin; refine wpList_append_rd rfl (.tmp 38) (.tmp 40) 29 rfl str_elem (base := w.heap.size) (.slice C out.length cp) out.length (strs out) rfl (own_below (Ho).out (newS wr s).1) (some ⟨(wr).heap.size, 0, none⟩) 1 1 (strs [s]) rfl rfl (newS wr s).2 (strs_oneCell _) (by unfold maxLen; omega) (by omega) (Nat.le_trans (Hb).out.size (newS wr s).1.size) ?_; intro v6 w6 hown6 hg6 hm6)
        have Hb6 := Lib.hid ((below_step Hb.out Hb.out.size (newS wr s).1).grown hg6 (Nat.le_trans Hb.out.size (newS wr s).1.size) (fun g e => (Ho.out.lt g e).1))
        have Ho6 : Hid (w6.ownsRow w.heap.size 9 1 v6 (insB ss s).length (strs (insB ss s))) := Lib.hid (by rw [He.out, List.length_append, strs_append]; exact hown6)
        clear hown6 hg6 hm6
        go_ret
        exact ⟨_, rfl, own_of Ho6.out, Hb6.out⟩
      · have He := Lib.hid he
        clear he Hs
        go_wp2_with fail
        go_ret
        exact ⟨_, rfl, by rw [He.out]; exact own_of Ho.out, Hb.out⟩
end Go.Proofs.Ytefgfdehinpbaaa
