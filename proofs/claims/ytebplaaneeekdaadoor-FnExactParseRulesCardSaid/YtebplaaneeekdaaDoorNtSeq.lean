
/- The iterator over the parts of a string: strings.SplitSeq at a separator of one byte. -/
import Derived.Test.YtebplaaneeekdaaDoorNtPrC
import Derived.RangeFuncBox
import Derived.RangeFuncLeaves
import Derived.RangeFuncRecord
import Derived.RangeFuncCalls
import Derived.Shelf.Abstract
import Derived.Shelf.RegionOpen
import Derived.WalkKit
import Derived.OwnWalkIn
import Derived.TacticsInMore
import Derived.LoopNIn
import Derived.LoopIn
namespace Go.Proofs.YtebplaaneeekdaaDoor
open Go.RowKit Go.Shelf
set_option linter.unusedVariables false
attribute [local go_sem] Oper.semAt_some

set_option maxHeartbeats 400000 in
theorem split_made (t : ByteArray) (w : World) :
    Calls Tryd.prog 19 #[.string t, .string ⟨#[32]⟩, .int .i64 0] w fun e w' =>
      e = .returned (.func (.func 27) #[] #[.pointer (some ⟨w.heap.size + 1, 0, none⟩), .pointer (some ⟨w.heap.size, 0, none⟩), .pointer (some ⟨w.heap.size + 2, 0, none⟩)]) ∧
      w' = ((w.alloc (.cells #[.string t] 9)).alloc (.cells #[.string ⟨#[32]⟩] 9)).alloc (.cells #[.int .i64 0] 3) := by
  go_enter Tryd.func19, Tryd.ntmps19
  go_wp2_with fail
  go_ret
  exact ⟨rfl, rfl⟩
theorem split_call (t : ByteArray) (w : World) :
    Calls Tryd.prog 12 #[.string t, .string ⟨#[32]⟩] w fun e w' =>
      e = .returned (.func (.func 27) #[] #[.pointer (some ⟨w.heap.size + 1, 0, none⟩), .pointer (some ⟨w.heap.size, 0, none⟩), .pointer (some ⟨w.heap.size + 2, 0, none⟩)]) ∧
      w' = ((w.alloc (.cells #[.string t] 9)).alloc (.cells #[.string ⟨#[32]⟩] 9)).alloc (.cells #[.int .i64 0] 3) := by
  have H := Lib.hid (split_made t w)
  go_enter Tryd.func12, Tryd.ntmps12
  go_wp2_with fail
  refine H.out.mono ?_
  rintro e w' ⟨rfl, rfl⟩
  go_wp2_with fail
  go_ret
  exact ⟨rfl, rfl⟩

/-- The iterator's own variables: the rest of the string, the separator, how much of it is kept. -/
structure Seq (W : World) (B : Nat) (s : ByteArray) : Prop where
  str : Boxed W B 9 (.string s)
  sep : Boxed W (B + 1) 9 (.string ⟨#[32]⟩)
  kept : Boxed W (B + 2) 3 (.int .i64 0)
theorem box_other {W : World} {B C : Nat} {t : TypeId} {v : Value} (h : Boxed W B t v) (hne : C ≠ B) (u : Value) : Boxed (W.setCell ⟨C, 0, none⟩ u) B t v :=
  h.kept (grownBy_setCell' W C u) (by intro e; injection e with e; exact hne e.symm)
theorem Seq.set {W : World} {B : Nat} {s : ByteArray} (h : Seq W B s) (s2 : ByteArray) : Seq (W.setCell ⟨B, 0, none⟩ (.string s2)) B s2 :=
  ⟨h.str.set _, box_other h.sep (by omega) _, box_other h.kept (by omega) _⟩
theorem Seq.same {W W' : World} {B : Nat} {s : ByteArray} (h : Seq W B s) (hk : ∀ k, B ≤ k → k < B + 3 → W'.heap[k]? = W.heap[k]?) : Seq W' B s :=
  ⟨(hk B (by omega) (by omega)).trans h.str, (hk (B + 1) (by omega) (by omega)).trans h.sep, (hk (B + 2) (by omega) (by omega)).trans h.kept⟩
/-- How long the rest of the string is. -/
def restLen (B : Nat) (W : World) : Nat := match W.cell? ⟨B, 0, none⟩ with
  | some (.string s) => s.size
  | _ => 0
theorem restLen_of {W : World} {B : Nat} {s : ByteArray} (h : Seq W B s) : restLen B W = s.size := by
  rw [restLen, h.str.cell]
theorem drop_head {α : Type} {ps : List α} {k : Nat} {x : α} {r : List α} (h : ps.drop k = x :: r) : ps[k]? = some x ∧ ps.drop (k + 1) = r := by
  have h1 : (ps.drop k)[0]? = some x := by rw [h]; rfl
  rw [List.getElem?_drop, Nat.add_zero] at h1
  refine ⟨h1, ?_⟩
  have h2 : (ps.drop k).drop 1 = r := by rw [h]; rfl
  rwa [List.drop_drop] at h2

set_option maxRecDepth 100000 in
set_option maxHeartbeats 3200000 in
/-- The iterator, over whatever the rounds keep. -/
theorem seq_in (n l B : Nat) (t : ByteArray) (hs : t.size ≤ 1048576) (J : Nat → World → Prop) (Jx : World → Prop)
    (hJ : ∀ k W s, J k W → J k (W.setCell ⟨B, 0, none⟩ (.string s)))
    (hY : ∀ k p W, J k W → (parts t)[k]? = some p → YieldAt Fence.wide (n - 1) Tryd.prog l #[.string p] W fun e W' =>
      (e = .returned (.bool true) ∧ J (k + 1) W' ∧ ∀ j, B ≤ j → j < B + 3 → W'.heap[j]? = W.heap[j]?) ∨ (e = .returned (.bool false) ∧ Jx W'))
    (W : World) (hB : Seq W B t) (h0 : J 0 W) :
    CallsIn Fence.wide n Tryd.prog 27 #[.func (.yield l) #[] #[], .pointer (some ⟨B + 1, 0, none⟩), .pointer (some ⟨B, 0, none⟩), .pointer (some ⟨B + 2, 0, none⟩)] W fun e W' =>
      (∃ v, e = .returned v) ∧ (J (parts t).length W' ∨ Jx W') := by
  refine callsIn_of_wp Tryd.func27 rfl trivial ?_ rfl
  simp only [Tryd.ntmps27, List.size_toArray, List.length_cons, List.length_nil, Nat.reduceAdd, Nat.reduceSub, Array.replicate_succ, Array.replicate_zero, List.push_toArray, List.append_toArray, List.nil_append, List.cons_append]
  have c1 := hB.sep.cell
  gi_wp2
  clear c1
  gi_loopw [7] (fun i wr => ∃ (k : Nat) (s : ByteArray), Seq wr B s ∧ J k wr ∧ Hid ((parts t).drop k = parts s) ∧ s.size ≤ 1048576) (fun _ wr => restLen B wr)
  case atStart => exact ⟨0, t, hB, h0, Lib.hid rfl, hs⟩
  case round =>
    obtain ⟨k, s, hS, hJs, Hd, hsz⟩ := hrel
    have c1 := hS.str.cell
    have c2 := hS.sep.cell
    have c3 := hS.kept.cell
    have f1 := hS.str.frozen
    have Hi := Lib.hid (sh_strings_Index_one s 32 wr)
    rcases index_cases (dl s) 32 with hi | ⟨i, hi, hil⟩
    · have hi2 : Lib.indexByte s.data.toList 32 = -1 := hi
      rw [hi2] at Hi
      have hp := Hd.out
      rw [parts_none hi] at hp
      obtain ⟨hp1, hp2⟩ := drop_head hp
      have hl : k + 1 = (parts t).length := by
        have e1 := congrArg List.length hp
        rw [List.length_drop, List.length_singleton] at e1; omega
      obtain ⟨fn, tmps, assign, body, hy, hR⟩ := hY k s wr hJs hp1
      have Hl := Lib.hid hl
      clear hi hi2 hp hp1 hp2 hl hY hJ
      gi_wp2
      refine ⟨trivial, (fun h => by cases h), (callsIn_wide.2 Hi.out).mono ?_⟩
      rintro e w' ⟨rfl, rfl⟩
      gi_wp2
      refine ⟨(fun h => by cases h), hR.mono ?_⟩
      rintro e W3 (⟨rfl, hJ3, hk3⟩ | ⟨rfl, hJx3⟩)
      · gi_wp2
        go_end0
        exact ⟨⟨_, rfl⟩, .inl (by rw [← Hl.out]; exact hJ3)⟩
      · gi_wp2
        go_end0
        exact ⟨⟨_, rfl⟩, .inr hJx3⟩
    · have hi2 : Lib.indexByte s.data.toList 32 = (i : Int) := hi
      rw [hi2] at Hi
      have hp := Hd.out
      rw [(parts_at hi).2] at hp
      obtain ⟨hp1, hp2⟩ := drop_head hp
      obtain ⟨fn, tmps, assign, body, hy, hR⟩ := hY k (s.extract 0 i) wr hJs hp1
      rw [dl_length] at hil
      have Hp2 := Lib.hid hp2
      have hez := extract_size s (a := i + 1) (b := s.size) (Nat.le_refl _)
      have n1 : i ≤ s.size := by omega
      have n2 : i + 1 ≤ s.size := by omega
      have n3 : (i : Int) + 1 ≤ (s.size : Int) := by omega
      have n4 : IntKind.i64.wrap ((i : Int) + 1) = (i : Int) + 1 := by rw [IntKind.wrap_i64]; omega
      have n5 : ((i : Int) + 1).toNat = i + 1 := by omega
      have n6 : (0 : Int) ≤ (i : Int) + 1 := by omega
      have Hez := Lib.hid hez
      clear hi hi2 hp hp1 hp2 hY hez
      gi_wp2
      refine ⟨trivial, (fun h => by cases h), (callsIn_wide.2 Hi.out).mono ?_⟩
      rintro e w' ⟨rfl, rfl⟩
      gi_wp2
      refine ⟨(fun h => by cases h), hR.mono ?_⟩
      rintro e W3 (⟨rfl, hJ3, hk3⟩ | ⟨rfl, hJx3⟩)
      · have hS3 := hS.same hk3
        have d1 := hS3.str.cell
        have d2 := hS3.sep.cell
        have d3 := hS3.kept.cell
        have g1 := hS3.str.frozen
        clear c1 c2 c3 f1
        gi_wp2
        go_roundw
        case rel => exact ⟨k + 1, s.extract (i + 1) s.size, hS3.set _, hJ _ _ _ hJ3, Hp2, by rw [Hez.out]; omega⟩
        case measure => rw [restLen_of (hS3.set _), restLen_of hS, Hez.out]; omega
      · gi_wp2
        refine bodyPost_ret (results_none rfl _ _ _) rfl ?_
        exact ⟨⟨_, rfl⟩, .inr hJx3⟩
end Go.Proofs.YtebplaaneeekdaaDoor
