
/- The walks of what parses rules in the reference. -/
import Derived.Test.YtebplaaneeekdaaDoorNtPr
import Derived.Test.YtebplaaneeekdaaDoorNtC
import Derived.BigQuiet
import Derived.Deep.QuietTactic
namespace Go.Proofs.YtebplaaneeekdaaDoor
open Go.RowKit
set_option linter.unusedVariables false

theorem strs_oneCell (xs : List ByteArray) : ∀ u ∈ strs xs, u.oneCell' = true := by
  intro u hu
  obtain ⟨x, _, rfl⟩ := List.mem_map.1 hu
  rfl
theorem strs_length (xs : List ByteArray) : (strs xs).length = xs.length := by simp [strs]
theorem strs_append (xs ys : List ByteArray) : strs (xs ++ ys) = strs xs ++ strs ys := by simp [strs]
theorem str_elem : ElemInfo Tryd.prog 28 9 1 16 := elemInfo_of Tryd.underlying28 str_info rfl (by decide)
theorem byte_is {s : ByteArray} {k : Nat} (h : k < s.size) : (dl s)[k]? = some s[k] := byte_at s k h
theorem u8_ne {a b : UInt8} (h : a.toNat ≠ b.toNat) : some a ≠ some b := fun e => h (by injection e with e; rw [e])
theorem u8_eq {a : UInt8} {n : Nat} (hn : n < 256) (h : a.toNat = n) : a = n.toUInt8 := by
  apply UInt8.toNat_inj.1
  rw [h, UInt8.toNat_ofNat']; omega

set_option maxHeartbeats 400000 in
theorem find9 (s : ByteArray) (w : World) (hs : s.size ≤ maxLen) :
    Calls Tryd.prog 10 #[.string s, .int .u8 62] w fun e w' => e = .returned (.int .i64 (Lib.indexByte (dl s) 62)) ∧ w = w' := by
  unfold maxLen at hs
  go_enter Tryd.func10, Tryd.ntmps10
  go_wp2_with fail
  go_loop [5] (fun i => ∃ k : Nat, k ≤ s.size ∧ i = .int .i64 k ∧ Hid (∀ j, j < k → (dl s)[j]? ≠ some 62)) (fun i => s.size - (intOf i).toNat)
  case atStart => exact ⟨0, Nat.zero_le _, rfl, Lib.hid (fun j hj => by omega)⟩
  case round =>
    obtain ⟨k, hk, rfl, hall⟩ := hrel
    by_cases hlt : k < s.size
    · have Hx := Lib.hid (byte_is hlt)
      by_cases h1 : s[k].toNat = 62
      · have e1 : ((s[k].toNat : Int) == 62) = true := by simp [h1]
        have Hi : Hid (Lib.indexByte (dl s) 62 = (k : Int)) := Lib.hid (index_is (by rw [Hx.out, u8_eq (n := 62) (by omega) h1]; rfl) hall.out)
        clear h1
        go_wp2_with fail
        go_ret
        exact ⟨ret_int Hi.out.symm, rfl⟩
      · have e1 : ((s[k].toNat : Int) == 62) = false := by simp only [beq_eq_false_iff_ne]; omega
        have Hall : Hid (∀ j, j < k + 1 → (dl s)[j]? ≠ some 62) := Lib.hid fun j hj => by
          rcases Nat.lt_or_ge j k with h2 | h2
          · exact hall.out j h2
          · have : j = k := by omega
            subst this
            rw [Hx.out]
            exact u8_ne h1
        clear h1 hall
        go_wp2_with fail
        go_round
        case rel => exact ⟨k + 1, by omega, by go_num, Hall⟩
        case measure => simp [intOf]; omega
    · have hk' : k = s.size := by omega
      subst hk'
      have Hi : Hid (Lib.indexByte (dl s) 62 = -1) := Lib.hid (index_no fun j hj => by
        have := (List.getElem?_eq_some_iff.1 hj).1
        rw [dl_length] at this
        exact hall.out j this hj)
      clear hall
      go_wp2_with fail
      go_ret
      exact ⟨ret_int Hi.out.symm, rfl⟩

/-- How far a string has been parted: the parts so far, where the next begins, how far it has been looked through. -/
structure Cutting (t : ByteArray) (out : List ByteArray) (a i : Nat) : Prop where
  le : a ≤ i
  sum : parts t = out ++ parts (t.extract a t.size)
  no : ∀ j, a ≤ j → j < i → (dl t)[j]? ≠ some 32
theorem cutting_start (t : ByteArray) : Cutting t [] 0 0 := ⟨Nat.le_refl _, by rw [extract_all]; rfl, fun j _ hj => by omega⟩
theorem Cutting.skip {t : ByteArray} {out : List ByteArray} {a i : Nat} (h : Cutting t out a i) (hi : (dl t)[i]? ≠ some 32) : Cutting t out a (i + 1) :=
  ⟨by have := h.le; omega, h.sum, fun j h1 h2 => by
    rcases Nat.lt_or_ge j i with h3 | h3
    · exact h.no j h1 h3
    · have : j = i := by omega
      subst this; exact hi⟩
theorem Cutting.cut {t : ByteArray} {out : List ByteArray} {a i : Nat} (h : Cutting t out a i) (hi : (dl t)[i]? = some 32) : Cutting t (out ++ [t.extract a i]) (i + 1) (i + 1) :=
  ⟨Nat.le_refl _, by rw [h.sum, parts_from h.le hi h.no]; simp, fun j _ _ => by omega⟩
theorem Cutting.last {t : ByteArray} {out : List ByteArray} {a : Nat} (h : Cutting t out a t.size) : parts t = out ++ [t.extract a t.size] := by
  rw [h.sum, parts_last h.le h.no]
theorem Cutting.len {t : ByteArray} {out : List ByteArray} {a i : Nat} (h : Cutting t out a i) : out.length ≤ t.size := by
  have h1 := parts_len t
  have h2 := parts_pos (t.extract a t.size)
  rw [h.sum, List.length_append] at h1; omega


set_option maxRecDepth 100000 in
set_option maxHeartbeats 1600000 in
theorem cut9 (t : ByteArray) (w : World) (hs : t.size ≤ 1048576) :
    Calls Tryd.prog 9 #[.string t, .int .u8 32] w fun e w' => ∃ u, e = .returned u ∧ Own w' w.heap.size w'.heap.size 9 1 u (parts t).length (strs (parts t)) ∧ Below w.heap.size w w' := by
  have Hb0 : Hid (Below w.heap.size w (w.alloc (.cells #[] 9))) := Lib.hid ((Below.refl _ _).alloc (Nat.le_refl _) _)
  have Ho0 : Hid ((w.alloc (.cells #[] 9)).ownsRow w.heap.size 9 1 (.slice (some ⟨w.heap.size, 0, none⟩) 0 0) 0 (strs [])) := Lib.hid (World.ownsRow_lit w #[] 0 (Nat.le_refl _) (Nat.zero_le _) rfl)
  go_enter Tryd.func9, Tryd.ntmps9
  go_wp2_with fail
  go_loopw [5, 6, 7] (fun o f i wr => ∃ (k a : Nat) (out : List ByteArray) (u : Value), i = .int .i64 k ∧ f = .int .i64 a ∧ u = o ∧ Hid (Below w.heap.size w wr) ∧ Hid (wr.ownsRow w.heap.size 9 1 u out.length (strs out)) ∧ a ≤ k ∧ out.length ≤ t.size + 1 ∧ k ≤ t.size + 1 ∧ Hid ((k ≤ t.size → Cutting t out a k) ∧ (t.size < k → parts t = out))) (fun _ _ i _ => t.size + 1 - (intOf i).toNat)
  case atStart => exact ⟨0, 0, [], _, rfl, rfl, rfl, Hb0, Ho0, Nat.le_refl _, Nat.zero_le _, Nat.zero_le _, Lib.hid ⟨fun _ => cutting_start t, fun h => by omega⟩⟩
  case round =>
    obtain ⟨k, a, out, u, rfl, rfl, rfl, Hb, Ho, hak, hol, hkl, HC⟩ := hrel
    clear Hb0 Ho0
    by_cases hk : k ≤ t.size
    · have hcut := HC.out.1 hk
      have hol2 := hcut.len
      obtain ⟨C, cp, rfl, _, _, _, _⟩ := own_form Ho.out
      by_cases hlt : k < t.size
      · have e0 : ((k : Int) == (t.size : Int)) = false := by simp only [beq_eq_false_iff_ne]; omega
        have Hx := Lib.hid (byte_is hlt)
        by_cases h1 : t[k].toNat = 32
        · have e1 : ((t[k].toNat : Int) == 32) = true := by simp [h1]
          have hcc := hcut.cut (by rw [Hx.out, u8_eq (n := 32) (by omega) h1]; rfl)
          have HC2 : Hid ((k + 1 ≤ t.size → Cutting t (out ++ [t.extract a k]) (k + 1) (k + 1)) ∧ (t.size < k + 1 → parts t = out ++ [t.extract a k])) := Lib.hid ⟨fun _ => hcc, fun h => by omega⟩
          have hl3 := hcc.len
          rw [List.length_append, List.length_singleton] at hl3
          clear hcut hcc h1 HC
          have Ho4 : Hid ((wr.alloc (.cells #[.string (t.extract a k)] 9)).ownsRow w.heap.size 9 1 (.slice C out.length cp) out.length (strs out)) := Lib.hid (own_below Ho.out ((Below.refl _ _).alloc (Nat.le_refl _) _))
          have Hb4 := Lib.hid (Hb.out.alloc Hb.out.size (.cells #[.string (t.extract a k)] 9))
          have Hnw := Lib.hid (rd_new wr (strs [t.extract a k]) 9)
          clear Ho Hb
          go_wp2_with (at_builtin; refine wpList_append_rd rfl (.tmp 26) (.tmp 31) 28 rfl str_elem (base := w.heap.size) (.slice C out.length cp) out.length (strs out) rfl Ho4.out (some ⟨wr.heap.size, 0, none⟩) 1 1 (strs [t.extract a k]) rfl rfl Hnw.out (strs_oneCell _) (by unfold maxLen; omega) (by omega) Hb4.out.size ?_; intro v5 w5 hown5 hg5 hm5)
          have Hb5 := Lib.hid (Hb4.out.grown hg5 Hb4.out.size (fun g e => (Ho4.out.lt g e).1))
          have Ho5 : Hid (w5.ownsRow w.heap.size 9 1 v5 (out ++ [t.extract a k]).length (strs (out ++ [t.extract a k]))) := Lib.hid (by rw [strs_append, List.length_append]; exact hown5)
          clear hown5 hg5 hm5 Ho4 Hb4 Hnw
          go_roundw
          case rel => exact ⟨k + 1, k + 1, _, _, by go_num, by go_num, rfl, Hb5, Ho5, Nat.le_refl _, by rw [List.length_append, List.length_singleton]; omega, by omega, HC2⟩
          case measure => simp [intOf]; omega
        · have e1 : ((t[k].toNat : Int) == 32) = false := by simp only [beq_eq_false_iff_ne]; omega
          have HC2 : Hid ((k + 1 ≤ t.size → Cutting t out a (k + 1)) ∧ (t.size < k + 1 → parts t = out)) := Lib.hid ⟨fun _ => hcut.skip (by rw [Hx.out]; exact u8_ne h1), fun h => by omega⟩
          clear hcut h1 HC
          go_wp2_with fail
          go_roundw
          case rel => exact ⟨k + 1, a, out, _, by go_num, rfl, rfl, Hb, Ho, by omega, by omega, by omega, HC2⟩
          case measure => simp [intOf]; omega
      · have hk' : k = t.size := by omega
        have e0 : ((k : Int) == (t.size : Int)) = true := by simp [hk']
        have hla : parts t = out ++ [t.extract a k] := by rw [hk']; rw [hk'] at hcut; exact hcut.last
        have HC2 : Hid ((k + 1 ≤ t.size → Cutting t (out ++ [t.extract a k]) (k + 1) (k + 1)) ∧ (t.size < k + 1 → parts t = out ++ [t.extract a k])) := Lib.hid ⟨fun h => by omega, fun _ => hla⟩
        clear hcut hla HC hk'
        have Ho4 : Hid ((wr.alloc (.cells #[.string (t.extract a k)] 9)).ownsRow w.heap.size 9 1 (.slice C out.length cp) out.length (strs out)) := Lib.hid (own_below Ho.out ((Below.refl _ _).alloc (Nat.le_refl _) _))
        have Hb4 := Lib.hid (Hb.out.alloc Hb.out.size (.cells #[.string (t.extract a k)] 9))
        have Hnw := Lib.hid (rd_new wr (strs [t.extract a k]) 9)
        clear Ho Hb
        go_wp2_with (at_builtin; refine wpList_append_rd rfl (.tmp 26) (.tmp 31) 28 rfl str_elem (base := w.heap.size) (.slice C out.length cp) out.length (strs out) rfl Ho4.out (some ⟨wr.heap.size, 0, none⟩) 1 1 (strs [t.extract a k]) rfl rfl Hnw.out (strs_oneCell _) (by unfold maxLen; omega) (by omega) Hb4.out.size ?_; intro v5 w5 hown5 hg5 hm5)
        have Hb5 := Lib.hid (Hb4.out.grown hg5 Hb4.out.size (fun g e => (Ho4.out.lt g e).1))
        have Ho5 : Hid (w5.ownsRow w.heap.size 9 1 v5 (out ++ [t.extract a k]).length (strs (out ++ [t.extract a k]))) := Lib.hid (by rw [strs_append, List.length_append]; exact hown5)
        clear hown5 hg5 hm5 Ho4 Hb4 Hnw
        go_roundw
        case rel => exact ⟨k + 1, k + 1, _, _, by go_num, by go_num, rfl, Hb5, Ho5, Nat.le_refl _, by rw [List.length_append, List.length_singleton]; omega, by omega, HC2⟩
        case measure => simp [intOf]; omega
    · have Hp := Lib.hid (HC.out.2 (by omega))
      clear HC
      go_wp2_with fail
      go_ret
      refine ⟨u, rfl, ?_, Hb.out⟩
      rw [Hp.out]
      exact own_of Ho.out
end Go.Proofs.YtebplaaneeekdaaDoor
