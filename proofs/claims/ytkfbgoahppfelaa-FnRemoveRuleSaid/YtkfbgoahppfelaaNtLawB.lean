
/- The walk of the laws' probes: codes near the prefixes of rules. -/
import Derived.Test.YtkfbgoahppfelaaNtLawA
import Derived.Test.YtkfbgoahppfelaaNtP
namespace Go.Proofs.Ytkfbgoahppfelaa
open Go.RowKit
set_option linter.unusedVariables false

/-- The length of a string that is a value. -/
def stLen : Value → Nat
  | .string s => s.size
  | _ => 0
def lit3 : List ByteArray := [⟨#[48, 48, 48, 48, 48, 48, 48]⟩, ⟨#[57, 57, 57, 57, 57, 57, 57]⟩, ⟨#[49, 50, 48, 48, 49, 48, 49]⟩]
def Sm100 (ls : List ByteArray) : Prop := ∀ s ∈ ls, s.size ≤ 100
theorem lit3_sm : Sm100 lit3 := by
  intro s hs
  simp [lit3] at hs
  rcases hs with rfl | rfl | rfl
  · show (7 : Nat) ≤ 100; omega
  · show (7 : Nat) ≤ 100; omega
  · show (7 : Nat) ≤ 100; omega
theorem Sm100.snoc {ls : List ByteArray} {s : ByteArray} (h : Sm100 ls) (hs : s.size ≤ 100) : Sm100 (ls ++ [s]) := by
  intro x hx
  rcases List.mem_append.1 hx with h1 | h1
  · exact h x h1
  · simp at h1; subst h1; exact hs

set_option maxRecDepth 100000 in
set_option maxHeartbeats 1600000 in
theorem probes_any (v : Value) (xs : List Rul) (w : World) (h : Rt w v xs) (hl : xs.length ≤ 21) (hs : SmT 100 xs) :
    Calls Try.prog 21 #[v] w fun e w' => ∃ (u : Value) (ls : List ByteArray), e = .returned u ∧ OS w' w.heap.size w'.heap.size u ls ∧ ls.length ≤ 100 ∧ Sm100 ls ∧ Below w.heap.size w w' := by
  obtain ⟨A, c, rfl, hA, hc1, hc2⟩ := h
  unfold maxLen at hc2
  have HA := Lib.hid hA
  have Hs := Lib.hid hs
  have Ho0 : Hid ((w.alloc (.cells #[.string ⟨#[48, 48, 48, 48, 48, 48, 48]⟩, .string ⟨#[57, 57, 57, 57, 57, 57, 57]⟩, .string ⟨#[49, 50, 48, 48, 49, 48, 49]⟩] 9)).ownsRow w.heap.size 9 1 (.slice (some ⟨w.heap.size, 0, none⟩) 3 3) lit3.length (strs lit3)) := Lib.hid (World.ownsRow_lit w #[.string ⟨#[48, 48, 48, 48, 48, 48, 48]⟩, .string ⟨#[57, 57, 57, 57, 57, 57, 57]⟩, .string ⟨#[49, 50, 48, 48, 49, 48, 49]⟩] 3 (Nat.le_refl _) (by unfold maxLen; omega) rfl)
  have Hb0 : Hid (Below w.heap.size w (w.alloc (.cells #[.string ⟨#[48, 48, 48, 48, 48, 48, 48]⟩, .string ⟨#[57, 57, 57, 57, 57, 57, 57]⟩, .string ⟨#[49, 50, 48, 48, 49, 48, 49]⟩] 9))) := Lib.hid ((Below.refl _ _).alloc (Nat.le_refl _) _)
  clear hA hs
  go_enter Try.func21, Try.ntmps21
  go_wp2_with fail
  go_loopw [3, 4] (fun o i wr => ∃ (k : Nat) (u0 : Value) (ls : List ByteArray), k ≤ xs.length ∧ i = .int .i64 k ∧ u0 = o ∧ ls.length ≤ 3 + 4 * k ∧ Hid (Below w.heap.size w wr) ∧ Hid (wr.ownsRow w.heap.size 9 1 u0 ls.length (strs ls)) ∧ Hid (Sm100 ls)) (fun _ i _ => xs.length - (intOf i).toNat)
  case atStart => exact ⟨0, _, lit3, Nat.zero_le _, rfl, rfl, by simp [lit3], Hb0, Ho0, Lib.hid lit3_sm⟩
  case round =>
    obtain ⟨k, u0, ls, hk, rfl, rfl, hll, Hb, Ho, Hls⟩ := hrel
    clear Hb0 Ho0
    by_cases hlt : k < xs.length
    · obtain ⟨ad, x, rfl, hx, hcA, hcB⟩ := (HA.out.below Hb.out).two hlt
      simp only [rtf] at hcA hcB
      have hxs := (Hs.out x (List.mem_of_getElem? hx)).1
      clear hx
      go_wp2_with fail
      go_loopw [3, 6] (fun o i wr => ∃ (m : Nat) (u0 : Value) (ls : List ByteArray), m ≤ 4 ∧ i = .int .i64 ((3 * m : Nat) : Int) ∧ u0 = o ∧ ls.length ≤ 3 + 4 * k + m ∧ Hid (Below w.heap.size w wr) ∧ Hid (wr.ownsRow w.heap.size 9 1 u0 ls.length (strs ls)) ∧ Hid (Sm100 ls)) (fun _ i _ => 12 - (intOf i).toNat)
      case atStart => exact ⟨0, _, ls, by omega, rfl, rfl, by omega, Hb, Ho, Hls⟩
      case round =>
        obtain ⟨m, u0, ls, hm, rfl, rfl, hll, Hb, Ho, Hls⟩ := hrel
        by_cases hm3 : m < 4
        · have hd : ((3 * m : Nat) : Int) < 10 := by omega
          obtain ⟨d, hdm⟩ : ∃ d : Nat, d = 3 * m := ⟨_, rfl⟩
          rw [← hdm] at hd ⊢
          have Hdm := Lib.hid hdm
          have hd12 : d ≤ 9 := by omega
          clear hdm
          obtain ⟨C, cp, rfl, _, _, _, _⟩ := own_form Ho.out
          have H0 : Hid (∃ s : ByteArray, s = x.1) := Lib.hid ⟨_, rfl⟩
          go_wp2_with fail
          go_loopw [7] (fun cv wr => ∃ s : ByteArray, cv = .string s ∧ s.size ≤ 100 ∧ Hid (Below w.heap.size w wr) ∧ Hid (wr.ownsRow w.heap.size 9 1 (.slice C ls.length cp) ls.length (strs ls))) (fun cv _ => 7 - stLen cv)
          case atStart => exact ⟨x.1, rfl, hxs, Hb, Ho⟩
          case round =>
            obtain ⟨s, rfl, hs1, Hb, Ho⟩ := hrel
            by_cases h7 : s.size < 7
            · have h7i : (s.size : Int) < 7 := by omega
              obtain ⟨r, hr⟩ : ∃ r : Nat, r = (d + s.size) % 10 := ⟨_, rfl⟩
              have hr9 : r ≤ 9 := by omega
              have er : ((d : Int) + (s.size : Int)) % 10 = (r : Int) := by omega
              have hcv := conv_one wr (48 + r) (48 + (r : Int)) (by omega) (by omega)
              have hcs := one8_size (48 + r)
              have hz : (s ++ one8 (48 + r)).size = s.size + 1 := by rw [ByteArray.size_append, hcs]
              have Hb2 := Lib.hid (Hb.out.alloc Hb.out.size (.cells #[.int .u8 (48 + (r : Int))] 5))
              have Ho2 := Lib.hid (own_below Ho.out ((Below.refl _ _).alloc (Nat.le_refl _) (.cells #[.int .u8 (48 + (r : Int))] 5)))
              clear hr
              go_wp2_with fail
              go_roundw
              case rel => exact ⟨_, rfl, by omega, Hb2, Ho2⟩
              case measure => simp [stLen]; omega
            · have h7i : ¬ (s.size : Int) < 7 := by omega
              obtain ⟨wn, hwn⟩ : ∃ wn, wn = wr.alloc (.cells #[.string s] 9) := ⟨_, rfl⟩
              have hbl : Below wr.heap.size wr wn := by rw [hwn]; exact (Below.refl _ _).alloc (Nat.le_refl _) _
              have hnw : Rd wn (some ⟨wr.heap.size, 0, none⟩) (strs [s]) := by rw [hwn]; exact rd_new wr (strs [s]) 9
              have Ho4 := Lib.hid (own_below Ho.out hbl)
              have Hb4 := Lib.hid (below_trans' Hb.out hbl)
              have Hnw := Lib.hid hnw
              have Hbs : Hid (w.heap.size ≤ wn.heap.size) := Lib.hid Hb4.out.size
              clear hnw hbl Ho Hb
              go_wp2_with (at_builtin; simp only [← hwn]; refine wpList_append_rd rfl (.tmp 39) (.tmp 41) 38 rfl str_elem (base := w.heap.size) (.slice C ls.length cp) ls.length (strs ls) rfl Ho4.out (some ⟨wr.heap.size, 0, none⟩) 1 1 (strs [s]) rfl rfl Hnw.out (strs_oneCell _) (by unfold maxLen; omega) (by omega) Hbs.out ?_; intro v5 w5 hown5 hg5 hm5)
              have Ho5 : Hid (w5.ownsRow w.heap.size 9 1 v5 (ls ++ [s]).length (strs (ls ++ [s]))) := Lib.hid (by rw [List.length_append, strs_append]; exact hown5)
              have Hb5 : Hid (Below w.heap.size w w5) := Lib.hid (Hb4.out.grown hg5 Hb4.out.size (fun g e => (Ho4.out.lt g e).1))
              have hl5 : (ls ++ [s]).length = ls.length + 1 := by simp
              have Hls5 := Lib.hid (Hls.out.snoc hs1)
              have ed : Hid ((d : Int) + 3 = ((3 * (m + 1) : Nat) : Int)) := Lib.hid (by have := Hdm.out; omega)
              clear hown5 hg5 hm5 Ho4 Hb4 Hnw Hls
              go_roundw
              case rel => exact ⟨m + 1, _, _, by omega, by rw [← ed.out], rfl, by omega, Hb5, Ho5, Hls5⟩
              case measure => simp [intOf]; omega
        · have hm4 : m = 4 := by omega
          subst hm4
          go_wp2_with fail
          go_roundw
          case rel => exact ⟨k + 1, _, ls, by omega, by go_num, rfl, by omega, Hb, Ho, Hls⟩
          case measure => simp [intOf]; omega
    · have hk' : k = xs.length := by omega
      subst hk'
      go_wp2_with fail
      go_ret
      exact ⟨_, ls, rfl, own_of Ho.out, by omega, Hls.out, Hb.out⟩

end Go.Proofs.Ytkfbgoahppfelaa
