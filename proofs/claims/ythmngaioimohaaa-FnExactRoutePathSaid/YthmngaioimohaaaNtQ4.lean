
/- The words and contracts of exact laws: offices of the call's own, strings. -/
import Derived.Test.YthmngaioimohaaaNtQ3
import Derived.Test.YthmngaioimohaaaNtP4
namespace Go.Proofs.Ythmngaioimohaaa
open Go.RowKit
set_option linter.unusedVariables false

theorem toQ_c (v : Value) (net : List Off) (w : World) (h : IQ w v net) (hs : SmQ net) :
    Calls Try.prog 9 #[v] w fun e w' => ∃ u, e = .returned u ∧ OQ w' w.heap.size w'.heap.size u net ∧ Below w.heap.size w w' := toQ0_c v net w h ⟨hs.len, hs.each⟩
theorem eqQ_c (v u : Value) (net : List Off) (w : World) (h : IQ w v net) (hu : IQ w u net) :
    Calls Try.prog 11 #[v, u] w fun e w' => e = .returned (.bool true) ∧ Below w.heap.size w w' := eqO_c v u net w h hu
theorem OS.only {w w' : World} {lo hi lo' hi' : Nat} {v : Value} {xs : List ByteArray} (h : OS w lo hi v xs) (hb : Only w w' lo' hi') (hd : hi ≤ lo' ∨ hi' ≤ lo) : OS w' lo hi v xs := Own.only h hb hd
def cntS (xs : List ByteArray) : Nat := xs.length
structure SmS (xs : List ByteArray) : Prop where
  cnt : cntS xs ≤ 1048576
theorem markS_c (v : Value) (xs : List ByteArray) (lo hi : Nat) (x0 : Int) (k0 : Nat) (hx0 : x0 = (k0 : Int)) (w : World) (h : OS w lo hi v xs) (hs : SmS xs) (h1 : k0 ≤ 1000000000) :
    Calls Try.prog 20 #[v, .int .i64 x0] w fun e w' => e = .returned (.int .i64 ((k0 : Int) + (cntS xs : Int))) ∧ OS w' lo hi v (mkS k0 xs.length) ∧ Only w w' lo hi :=
  (markS v lo xs x0 k0 hx0 w h.row hs.cnt (by omega)).mono fun e w' ⟨he, ho, hg⟩ => ⟨he, ⟨by rw [mkS_length]; exact ho, h.top⟩, Only.grown hg fun g e => ⟨(h.row.lt g e).1, h.top g e⟩⟩
theorem heldS_c (v : Value) (xs : List ByteArray) (x0 : Int) (k0 : Nat) (hx0 : x0 = (k0 : Int)) (w : World) (h : IS w v (mkS k0 xs.length)) (hs : SmS xs) (h1 : k0 ≤ 1000000000) :
    Calls Try.prog 21 #[v, .int .i64 x0] w fun e w' => e = .returned (.int .i64 ((k0 : Int) + (cntS xs : Int))) ∧ Below w.heap.size w w' :=
  heldS v xs.length x0 k0 hx0 w h hs.cnt (by omega)
theorem rp_small (net : List Off) (s c : ByteArray) : SmS (rpath net s c).1 := by
  refine ⟨?_⟩
  cases ho : offI net s with
  | none => rw [rpath_no_office ho]; simp [cntS]
  | some i =>
    cases hn : nv net with
    | false => rw [rpath_no_net hn]; simp [cntS]
    | true =>
      cases hc : codeB c with
      | false => rw [rpath_no_code hc]; simp [cntS]
      | true =>
        rw [rpath_yes ho hn hc]
        obtain ⟨r, _, _, hil, _⟩ := offI_some ho
        have h1 := (path_ok (c := c) hil).2.1
        have h2 := (nv_parts hn).len.2
        simp only [cntS, List.length_map]
        omega

end Go.Proofs.Ythmngaioimohaaa
