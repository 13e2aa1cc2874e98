
/- A range over the parts of a string, out of the iterator's contract and one walk of the body. -/
import Derived.Test.YtebplaaneeekdaaDoorNtSeq
namespace Go.Proofs.YtebplaaneeekdaaDoor
open Go.RowKit Go.Shelf
set_option linter.unusedVariables false

/-- What a round leaves as it lay: the iterator's variables, the loop's record and the block beside it. -/
def KeptB (B b0 : Nat) (W W' : World) : Prop := ∀ j, (B ≤ j ∧ j < B + 3) ∨ (b0 ≤ j ∧ j < b0 + 2) → W'.heap[j]? = W.heap[j]?
/-- How a round may end. -/
def roundEnd (B b0 : Nat) (I : Nat → World → Prop) (Ix : World → Prop) (k : Nat) (W : World) : Exit → Act → World → Prop
  | .normal, _, W' => KeptB B b0 W W' ∧ I (k + 1) W'
  | .ret, _, W' => KeptB B b0 W W' ∧ Ix W'
  | _, _, _ => False
theorem put_same {w : World} {l : Nat} {o : Obj} (o' : Obj) (h : w.heap[l]? = some o) : (w.putObj l o').heap[l]? = some o' := World.putObj_heap_same (Array.getElem?_eq_some_iff.1 h).1

set_option maxHeartbeats 1600000 in
theorem range_split {n : Nat} {g : Operand} {ps : Array Tmp} {assign body : Code} {Q : Exit → Act → World → Prop} {a : Act} {w : World} (hn : 1 ≤ n)
    (B : Nat) (t : ByteArray) (hs : t.size ≤ 1048576) (hB : B + 3 ≤ w.heap.size)
    (hg : a.eval g = .func (.func 27) #[] #[.pointer (some ⟨B + 1, 0, none⟩), .pointer (some ⟨B, 0, none⟩), .pointer (some ⟨B + 2, 0, none⟩)])
    (hps : ps.size = 1) (I : Nat → World → Prop) (Ix : World → Prop)
    (hI : ∀ k W o o' l, I k W → w.heap.size ≤ l → l < w.heap.size + 2 → W.heap[l]? = some o → o.isCells = false → I k (W.putObj l o'))
    (hIx : ∀ W o o' l, Ix W → w.heap.size ≤ l → l < w.heap.size + 2 → W.heap[l]? = some o → o.isCells = false → Ix (W.putObj l o'))
    (hIs : ∀ k W s, I k W → I k (W.setCell ⟨B, 0, none⟩ (.string s)))
    (hS : Seq w B t) (h0 : ∀ o1 o2, I 0 ((w.alloc o1).alloc o2)) (a1 : ByteArray → Act)
    (hassign : ∀ (l : Nat) (p : ByteArray) (W : World) (K : Act → World → Prop), K (a1 p) W →
      assign.wpIn (Fence.wide.inRound l) (n - 1 - 1) Tryd.prog (Exit.then K (fun _ _ _ => False)) { tmps := (ps.zip #[Value.string p]).foldl (fun t (p, v) => t.setIfInBounds p v) a.tmps, defers := [] } W)
    (hbody : ∀ (l k : Nat) (p : ByteArray) (W : World), I k W → (parts t)[k]? = some p → w.heap.size + 2 ≤ W.heap.size → body.wpIn (Fence.wide.inRound l) (n - 1 - 1) Tryd.prog (roundEnd B w.heap.size I Ix k W) (a1 p) W)
    (hdone : ∀ W, I (parts t).length W → W.heap[w.heap.size]? = some (.deferred (some [])) → Q .normal { a with defers := { target := .collected w.heap.size, args := #[] } :: a.defers } W)
    (hstop : ∀ W, Ix W → W.heap[w.heap.size]? = some (.deferred (some [])) → Code.ret.wpIn Fence.wide n Tryd.prog Q { a with defers := { target := .collected w.heap.size, args := #[] } :: a.defers } W) :
    (Code.rangeFunc g ps assign body).wpIn Fence.wide n Tryd.prog Q a w := by
  refine wpIn_rangeFunc ?_
  intro fn hfn
  obtain ⟨rec, hrec⟩ : ∃ rec : LoopState → Option Code → Loop, rec = fun st pe => { state := st, pending := pe, fn, tmps := a.tmps, params := ps, assign, body, defers := w.heap.size } := ⟨_, rfl⟩
  obtain ⟨W1, hW1⟩ : ∃ W1, (w.alloc (.deferred (some []))).alloc (.loop (rec .ready none)) = W1 := ⟨_, rfl⟩
  have hL1 : W1.heap[w.heap.size + 1]? = some (.loop (rec .ready none)) := by
    rw [← hW1]; have := World.alloc_heap_new (w.alloc (.deferred (some []))) (.loop (rec .ready none)); rwa [World.size_alloc] at this
  have hK1 : W1.heap[w.heap.size]? = some (.deferred (some [])) := by
    rw [← hW1]; exact (Below.heap_alloc _ _ _ (by simp)).trans (World.alloc_heap_new w _)
  have hI1 : I 0 W1 := by rw [← hW1]; exact h0 _ _
  have hS1 : Seq W1 B t := by
    refine hS.same fun k _ hk => ?_
    rw [← hW1]
    exact (Below.heap_alloc _ _ _ (by rw [World.size_alloc]; omega)).trans (Below.heap_alloc _ _ _ (by omega))
  refine ⟨w.heap.size + 1, [{ target := .collected w.heap.size, args := #[] }], W1, { target := .fn (.func 27) #[.pointer (some ⟨B + 1, 0, none⟩), .pointer (some ⟨B, 0, none⟩), .pointer (some ⟨B + 2, 0, none⟩)], args := #[.func (.yield (w.heap.size + 1)) #[] #[]] }, W1, 27,
    #[.func (.yield (w.heap.size + 1)) #[] #[], .pointer (some ⟨B + 1, 0, none⟩), .pointer (some ⟨B, 0, none⟩), .pointer (some ⟨B + 2, 0, none⟩)], W1, ?_, ?_, ?_, ?_, fun _ => hn, ?_⟩
  · rw [← hW1, hrec]; exact run_enterLoop_outer _ _ _ _ _
  · simp only [resolve, hg]
    simp [go_sem]
  · intro f' hf'; trivial
  · simp [invoke, go_sem]
  refine (seq_in (n - 1) (w.heap.size + 1) B t hs
    (fun k W => I k W ∧ W.heap[w.heap.size + 1]? = some (.loop (rec .ready none)) ∧ W.heap[w.heap.size]? = some (.deferred (some [])))
    (fun W => Ix W ∧ W.heap[w.heap.size + 1]? = some (.loop (rec .done (some .ret))) ∧ W.heap[w.heap.size]? = some (.deferred (some [])))
    (fun k W s ⟨h1, h2, h3⟩ => ⟨hIs k W s h1, (Below.heap_setCell _ _ _ _ (by simp only; omega)).trans h2, (Below.heap_setCell _ _ _ _ (by simp only; omega)).trans h3⟩)
    ?_ W1 hS1 ⟨hI1, hL1, hK1⟩).mono ?_
  · rintro k p W ⟨hi, hl, hk⟩ hp
    have hlt : w.heap.size + 1 < W.heap.size := (Array.getElem?_eq_some_iff.1 hl).1
    have hy := run_yield (P := Tryd.prog) (args := #[Value.string p]) hl (by rw [hrec]; exact hps.symm)
    rw [hrec] at hy
    refine ⟨fn, _, assign, body, hy, roundIn_of_wpIn hfn (hassign _ p W _ ⟨_, run_beginRound hl (by rw [hrec]), ?_⟩)⟩
    obtain ⟨V, hV⟩ : ∃ V, W.putObj (w.heap.size + 1) (.loop { rec .ready none with state := .busy }) = V := ⟨_, rfl⟩
    have hl2 : V.heap[w.heap.size + 1]? = some (.loop { rec .ready none with state := .busy }) := by rw [← hV]; exact put_same _ hl
    have hk2 : V.heap[w.heap.size]? = some (.deferred (some [])) := by rw [← hV]; exact (World.putObj_heap_other (by omega)).trans hk
    have hi2 : I k V := by rw [← hV]; exact hI _ _ _ _ _ hi (by omega) (by omega) hl rfl
    have hb2 : ∀ j, B ≤ j → j < B + 3 → V.heap[j]? = W.heap[j]? := fun j _ h => by rw [← hV]; exact World.putObj_heap_other (by omega)
    have hz2 : V.heap.size = W.heap.size := by rw [← hV]; exact World.putObj_size
    rw [hV]
    refine wpIn_mono (hbody _ k p V hi2 hp (by omega)) ?_
    have fin : ∀ (jump : Option Code) (W3 : World), KeptB B w.heap.size V W3 →
        (Instr.endRound (w.heap.size + 1) jump).run Tryd.prog W3 = .ok (.bool jump.isNone) (W3.putObj (w.heap.size + 1) (.loop (rec (if jump.isNone then .ready else .done) jump))) ∧
        W3.heap[w.heap.size + 1]? = some (.loop { rec .ready none with state := .busy }) ∧
        (W3.putObj (w.heap.size + 1) (.loop (rec (if jump.isNone then .ready else .done) jump))).heap[w.heap.size + 1]? = some (.loop (rec (if jump.isNone then .ready else .done) jump)) ∧
        (W3.putObj (w.heap.size + 1) (.loop (rec (if jump.isNone then .ready else .done) jump))).heap[w.heap.size]? = some (.deferred (some [])) := fun jump W3 hk3 => by
      have hl3 : W3.heap[w.heap.size + 1]? = some (.loop { rec .ready none with state := .busy }) := (hk3 _ (.inr ⟨by omega, by omega⟩)).trans hl2
      have hd3 : W3.heap[w.heap.size]? = some (.deferred (some [])) := (hk3 _ (.inr ⟨by omega, by omega⟩)).trans hk2
      have := run_endRound (P := Tryd.prog) jump hl3
      rw [hrec] at this ⊢
      exact ⟨this, by rw [hrec] at hl3; exact hl3, by rw [hrec] at hl3; exact put_same _ hl3, (World.putObj_heap_other (by omega)).trans hd3⟩
    rintro e a3 W3 hp3
    cases e with
    | normal =>
      obtain ⟨hk3, hi3⟩ := hp3
      obtain ⟨hr, hl3, hl4, hk4⟩ := fin none W3 hk3
      exact ⟨_, _, hr, .inl ⟨rfl, ⟨hI _ _ _ _ _ hi3 (by omega) (by omega) hl3 rfl, hl4, hk4⟩, fun j h1 h2 => ((World.putObj_heap_other (by omega)).trans (hk3 j (.inl ⟨h1, h2⟩))).trans (hb2 j h1 h2)⟩⟩
    | ret =>
      obtain ⟨hk3, hi3⟩ := hp3
      obtain ⟨hr, hl3, hl4, hk4⟩ := fin (some .ret) W3 hk3
      exact ⟨_, _, hr, .inr ⟨rfl, hIx _ _ _ _ hi3 (by omega) (by omega) hl3 rfl, hl4, hk4⟩⟩
    | exit id => exact hp3.elim
    | goto t => exact hp3.elim
    | panic ch => exact hp3.elim
    | outgrown => exact hp3.elim
  · rintro e W2 ⟨⟨v, rfl⟩, (⟨hi, hl, hk⟩ | ⟨hi, hl, hk⟩)⟩
    · exact ⟨none, _, by have := run_endLoop (P := Tryd.prog) hl (by rw [hrec]; simp); rw [hrec] at this; exact this, hdone _ (hI _ _ _ _ _ hi (by omega) (by omega) hl rfl) ((World.putObj_heap_other (by omega)).trans hk)⟩
    · exact ⟨some .ret, _, by have := run_endLoop (P := Tryd.prog) hl (by rw [hrec]; simp); rw [hrec] at this; exact this, hstop _ (hIx _ _ _ _ hi (by omega) (by omega) hl rfl) ((World.putObj_heap_other (by omega)).trans hk)⟩
end Go.Proofs.YtebplaaneeekdaaDoor
