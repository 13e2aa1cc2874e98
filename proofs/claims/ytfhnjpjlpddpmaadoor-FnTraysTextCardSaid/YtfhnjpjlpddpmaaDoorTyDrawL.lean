
/- The walk of what draws letters. -/
import Derived.Test.YtfhnjpjlpddpmaaDoorTyDrawC
import Derived.Test.YtfhnjpjlpddpmaaDoorApp
namespace Go.Proofs.YtfhnjpjlpddpmaaDoor
open Go.RowKit
set_option linter.unusedVariables false

theorem in7 {x a b c d e f g : Int} (h : x ∈ [a, b, c, d, e, f, g]) (ha : 0 ≤ a ∧ a ≤ 20) (hb : 0 ≤ b ∧ b ≤ 20) (hc : 0 ≤ c ∧ c ≤ 20) (hd : 0 ≤ d ∧ d ≤ 20) (he : 0 ≤ e ∧ e ≤ 20) (hf : 0 ≤ f ∧ f ≤ 20) (hg : 0 ≤ g ∧ g ≤ 20) : ∃ n : Nat, x = (n : Int) ∧ n ≤ 20 := by
  simp at h
  refine ⟨x.toNat, ?_, ?_⟩ <;> rcases h with h | h | h | h | h | h | h <;> omega
theorem own_past {w w' : World} {B R n : Nat} {e : TypeId} {size : Nat} {v : Value} {cs : List Value} (h : w.ownsRow B e size v n cs) (hR : R < B) (hg : w.grownBy w' (some R)) : w'.ownsRow B e size v n cs := by
  refine h.kept hg ?_
  cases hv : v.ownBlock with
  | none => exact .inl rfl
  | some g => right; intro e; injection e with e; have := (h.lt g hv).1; omega

set_option maxRecDepth 100000 in
set_option maxHeartbeats 1600000 in
theorem letters_any (R p b : Nat) (w : World) (h : Reader w R p) (hp : p ≤ 274877906944) (hb : b ≤ 1000) :
    Calls Tryd.prog 48 #[.pointer (some ⟨R, 0, none⟩), .int .i64 b] w fun e w' => ∃ (v : Value) (xs : List Ltr) (q : Nat), e = .returned v ∧ w'.ownsRow w.heap.size 35 2 v xs.length (lcs xs) ∧ xs.length ≤ 20 ∧ (∀ x ∈ xs, x.2.size = 7 ∧ digs x.2 = true) ∧ q ≤ p + 1 + 8 * xs.length ∧ Dst w R q w' := by
  have hR := h.lt
  have Ho0 : Hid ((w.alloc (.cells #[] 35)).ownsRow w.heap.size 35 2 (.slice (some ⟨w.heap.size, 0, none⟩) 0 0) 0 (lcs [])) := Lib.hid (World.ownsRow_lit w #[] 0 (Nat.le_refl _) (Nat.zero_le _) rfl)
  have Hd0 := Lib.hid ((Dst.start h).alloc (.cells #[] 35))
  have hn := num_lit R p (w.heap.size + 1) 7 #[.int .i64 6, .int .i64 4, .int .i64 9, .int .i64 2, .int .i64 14, .int .i64 0, .int .i64 1] [6, 4, 9, 2, 14, 0, 1] _ Hd0.out.reader (by omega) (by rw [World.size_alloc]) rfl rfl (by simp) (by simp)
  have Hn := Lib.hid hn
  clear hn h
  go_enter Tryd.func48, Tryd.ntmps48
  go_wp2_with fail
  refine Hn.out.mono ?_
  rintro e w1 ⟨x, rfl, hx, hr1, hg1⟩
  obtain ⟨N, rfl, hN⟩ := in7 hx (by omega) (by omega) (by omega) (by omega) (by omega) (by omega) (by omega)
  have Ho1 := Lib.hid (own_past Ho0.out hR hg1)
  have Hd1 := Lib.hid (Hd0.out.step hg1 hr1)
  clear Hn Ho0 Hd0 hx hr1 hg1
  go_wp2_with fail
  go_loopw [5, 6] (fun v i wr => ∃ (k q : Nat) (xs : List Ltr) (u0 : Value), k + xs.length = N ∧ i = .int .i64 k ∧ u0 = v ∧ q ≤ p + 1 + 8 * xs.length ∧ Hid (Dst w R q wr) ∧ Hid (wr.ownsRow w.heap.size 35 2 u0 xs.length (lcs xs)) ∧ Hid (∀ x ∈ xs, x.2.size = 7 ∧ digs x.2 = true)) (fun _ i _ => (intOf i).toNat)
  case atStart => exact ⟨N, p + 1, [], _, rfl, rfl, rfl, by simp, Hd1, Ho1, Lib.hid (by simp)⟩
  case round =>
    obtain ⟨k, q, xs, u0, hkN, rfl, rfl, hq, Hd, Ho, Hx⟩ := hrel
    clear Hd1 Ho1
    by_cases hk : 0 < k
    · have hk1 : (0 : Int) < k := by omega
      have hso := some_any R q wr Hd.out.reader (by omega)
      have Hso := Lib.hid hso
      obtain ⟨C, cp, rfl, _, _, _, _⟩ := own_form Ho.out
      clear hso
      go_wp2_with fail
      refine Hso.out.mono ?_
      rintro e w3 ⟨s, q3, rfl, hs7, hsd, hq3, hd3⟩
      have Hd3 := Lib.hid (Hd.out.step hd3.grown hd3.reader)
      have Ho3 := Lib.hid (own_past Ho.out hR hd3.grown)
      clear Hso hd3 Ho Hd
      have hy : ∃ y : Ltr, y = ((b : Int) + (xs.length : Int) * 7, s) := ⟨_, rfl⟩
      obtain ⟨y, hy⟩ := hy
      have hbl : Below w3.heap.size w3 (w3.alloc (.cells #[.int .i64 ((b : Int) + (xs.length : Int) * 7), .string s] 35)) := (Below.refl _ _).alloc (Nat.le_refl _) _
      have Ho4 := Lib.hid (own_below Ho3.out hbl)
      have Hd4 := Lib.hid (Hd3.out.alloc (.cells #[.int .i64 ((b : Int) + (xs.length : Int) * 7), .string s] 35))
      have hnw : Rd (w3.alloc (.cells #[.int .i64 ((b : Int) + (xs.length : Int) * 7), .string s] 35)) (some ⟨w3.heap.size, 0, none⟩) (lcs [y]) := by subst hy; exact rd_new w3 (lcs [((b : Int) + (xs.length : Int) * 7, s)]) 35
      have Hnw := Lib.hid hnw
      have Hy := Lib.hid hy
      clear hnw hbl hy Hd3 Ho3
      go_wp2_with (at_builtin; refine wpList_append_rd rfl (.tmp 15) (.tmp 24) 33 rfl ltr_elem (base := w.heap.size) (.slice C xs.length cp) xs.length (lcs xs) rfl Ho4.out (some ⟨w3.heap.size, 0, none⟩) 1 1 (lcs [y]) rfl rfl Hnw.out (lcs_oneCell _) (by unfold maxLen; omega) (by omega) Hd4.out.size ?_; intro v5 w5 hown5 hg5 hm5)
      have Ho5 : Hid (w5.ownsRow w.heap.size 35 2 v5 (xs ++ [y]).length (lcs (xs ++ [y]))) := Lib.hid (by rw [List.length_append, show lcs (xs ++ [y]) = lcs xs ++ lcs [y] from cs2_append _ _]; exact hown5)
      have Hd5 := Lib.hid (Hd4.out.own hR hg5 (fun g e => (Ho4.out.lt g e).1))
      have Hx5 : Hid (∀ x ∈ xs ++ [y], x.2.size = 7 ∧ digs x.2 = true) := Lib.hid fun x hx => by
        rcases List.mem_append.1 hx with h | h
        · exact Hx.out x h
        · simp at h; subst h; rw [Hy.out]; exact ⟨hs7, hsd⟩
      have hl5 : (xs ++ [y]).length = xs.length + 1 := by simp
      clear hown5 hg5 hm5 Ho4 Hd4 Hnw Hx
      go_roundw
      case rel => exact ⟨k - 1, q3, _, _, by omega, by go_num, rfl, by omega, Hd5, Ho5, Hx5⟩
      case measure => simp [intOf]; omega
    · have hk' : k = 0 := by omega
      subst hk'
      go_wp2_with fail
      go_ret
      exact ⟨_, xs, q, rfl, Ho.out, by omega, Hx.out, hq, Hd.out⟩

end Go.Proofs.YtfhnjpjlpddpmaaDoor
