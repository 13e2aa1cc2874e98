
/- The walk of FormatRules of the reference. -/
import Derived.Test.YtebplaaneeekdaaDoorNt6
import Derived.Lib.Join
import Derived.Test.YtebplaaneeekdaaDoorNtStrs
namespace Go.Proofs.YtebplaaneeekdaaDoor
open Go.RowKit
set_option linter.unusedVariables false

def ruleT (x : Rul) : ByteArray := x.1 ++ ⟨#[62]⟩ ++ x.2
/-- The text of the first k rules. -/
def fmtTo (xs : List Rul) : Nat → ByteArray
  | 0 => ⟨#[]⟩
  | k + 1 => match xs[k]? with
    | some x => (if 0 < k then fmtTo xs k ++ ⟨#[32]⟩ else fmtTo xs k) ++ x.1 ++ ⟨#[62]⟩ ++ x.2
    | none => fmtTo xs k
def fmtR (xs : List Rul) : ByteArray := if rv xs then (if xs.length = 0 then ⟨#[45]⟩ else fmtTo xs xs.length) else ⟨#[]⟩
theorem fmt_first {xs : List Rul} {x : Rul} (h : xs[0]? = some x) : fmtTo xs 1 = ⟨#[]⟩ ++ x.1 ++ ⟨#[62]⟩ ++ x.2 := by rw [fmtTo, h]; rfl
theorem fmt_next {xs : List Rul} {k : Nat} {x : Rul} (h : xs[k]? = some x) (hk : 0 < k) : fmtTo xs (k + 1) = fmtTo xs k ++ ⟨#[32]⟩ ++ x.1 ++ ⟨#[62]⟩ ++ x.2 := by rw [fmtTo, h]; simp [hk]
theorem fmt_size {xs : List Rul} (hs : ∀ x ∈ xs, x.1.size ≤ 7 ∧ x.2.size ≤ 8) : ∀ k, (fmtTo xs k).size ≤ k * 17
  | 0 => by show (0 : Nat) ≤ 0 * 17; omega
  | k + 1 => by
    have ih := fmt_size hs k
    cases h : xs[k]? with
    | none => rw [fmtTo, h]; simp only; omega
    | some x =>
      have hx := hs x (List.mem_of_getElem? h)
      have z1 : (⟨#[62]⟩ : ByteArray).size = 1 := rfl
      have z2 : (⟨#[32]⟩ : ByteArray).size = 1 := rfl
      by_cases hk : 0 < k
      · rw [fmt_next h hk]; simp only [ByteArray.size_append]; omega
      · have : k = 0 := by omega
        subst this
        rw [fmt_first h]; simp only [ByteArray.size_append]
        have z3 : (⟨#[]⟩ : ByteArray).size = 0 := rfl
        omega
theorem dl_fmt {xs : List Rul} : ∀ k, 0 < k → k ≤ xs.length → dl (fmtTo xs k) = Lib.join ((xs.take k).map fun x => (ruleT x).data.toList) [32]
  | 0, h, _ => by omega
  | k + 1, _, hl => by
    have hkl : k < xs.length := by omega
    have hx := List.getElem?_eq_getElem hkl
    generalize xs[k] = x at hx
    by_cases hk : 0 < k
    · have ih := dl_fmt (xs := xs) k hk (by omega)
      rw [fmt_next hx hk, take_snoc hx, List.map_append]
      simp only [dl_app]
      rw [ih]
      obtain ⟨y, l, hy⟩ : ∃ y l, xs.take k = y :: l := by
        cases hq : xs.take k with
        | nil =>
          have := congrArg List.length hq
          rw [List.length_take, List.length_nil] at this
          omega
        | cons y l => exact ⟨y, l, rfl⟩
      rw [hy, List.map_cons, List.cons_append, Lib.join_cons, Lib.join_cons]
      simp [Lib.joinTail, ruleT, dl]
    · have : k = 0 := by omega
      subst this
      rw [fmt_first hx, take_snoc hx]
      simp [Lib.join_one, ruleT, dl]
theorem fmt_join {xs : List Rul} (h : 0 < xs.length) : (⟨(Lib.join ((xs.map ruleT).map (·.data.toList)) [32]).toArray⟩ : ByteArray) = fmtTo xs xs.length := by
  have e := dl_fmt xs.length h (Nat.le_refl _)
  rw [List.take_length] at e
  apply dl_inj
  rw [e]
  simp [dl]; rfl
theorem fmt_ne {xs : List Rul} (h : 0 < xs.length) : (fmtTo xs xs.length).toList.isEmpty = false := by
  obtain ⟨k, hk⟩ : ∃ k, xs.length = k + 1 := ⟨xs.length - 1, by omega⟩
  have hx := List.getElem?_eq_getElem (l := xs) (i := k) (by omega)
  generalize xs[k] = x at hx
  rw [hk, tl_data]
  have key : 0 < (fmtTo xs (k + 1)).size := by
    have z1 : (⟨#[62]⟩ : ByteArray).size = 1 := rfl
    by_cases h0 : 0 < k
    · rw [fmt_next hx h0]; simp only [ByteArray.size_append]; omega
    · have : k = 0 := by omega
      subst this
      rw [fmt_first hx]; simp only [ByteArray.size_append]; omega
  cases hd : (fmtTo xs (k + 1)).data.toList with
  | cons a l => rfl
  | nil =>
    have h9 : (fmtTo xs (k + 1)).data.toList.length = 0 := by rw [hd]; rfl
    have h8 : (fmtTo xs (k + 1)).data.toList.length = (fmtTo xs (k + 1)).size := by simp
    omega
theorem fmtR_no {xs : List Rul} (h : rv xs = false) : fmtR xs = ⟨#[]⟩ := by simp [fmtR, h]
theorem fmtR_nil {xs : List Rul} (h : rv xs = true) (h0 : xs.length = 0) : fmtR xs = ⟨#[45]⟩ := by simp [fmtR, h, h0]
theorem fmtR_yes {xs : List Rul} (h : rv xs = true) (h0 : 0 < xs.length) : fmtR xs = fmtTo xs xs.length := by rw [fmtR, h, if_pos rfl, if_neg (by omega)]

theorem dash_any (s : ByteArray) (w : World) (b : Bool) (hb : s.toList.isEmpty = b) :
    Calls Tryd.prog 18 #[.string s] w fun e w' => e = .returned (.string (if b then ⟨#[45]⟩ else s)) ∧ w = w' := by
  have e1 : (s.toList == (⟨#[]⟩ : ByteArray).toList) = b := by
    rw [← hb, tl_data, tl_data]
    cases s.data.toList <;> rfl
  cases b with
  | true =>
    go_enter Tryd.func18, Tryd.ntmps18
    go_wp2_with fail
    go_ret
    exact ⟨rfl, rfl⟩
  | false =>
    go_enter Tryd.func18, Tryd.ntmps18
    go_wp2_with fail
    go_ret
    exact ⟨rfl, rfl⟩

set_option maxRecDepth 100000 in
set_option maxHeartbeats 1600000 in
theorem spec_fmt (v : Value) (xs : List Rul) (w : World) (h : Rt w v xs) (hs : Szr xs) :
    Calls Tryd.prog 11 #[v] w fun e w' => e = .returned (.string (fmtR xs)) ∧ Below w.heap.size w w' := by
  have H1 := Lib.hid (spec_rv v xs w h hs)
  obtain ⟨A, c, rfl, hA, hc1, hc2⟩ := h
  unfold maxLen at hc2
  have HA := Lib.hid hA
  clear hs hA
  go_enter Tryd.func11, Tryd.ntmps11
  go_wp2_with fail
  refine H1.out.mono ?_
  rintro e w1 ⟨rfl, hb1⟩
  have Hb1 := Lib.hid hb1
  clear H1 hb1
  cases hrv : rv xs with
  | false =>
    have Hno := Lib.hid (fmtR_no hrv)
    clear hrv
    go_wp2_with fail
    go_ret
    exact ⟨ret_str Hno.out.symm, Hb1.out⟩
  | true =>
    have Hrv := Lib.hid hrv
    have Hsz := Lib.hid (rv_sizes hrv)
    have hl20 := (rv_parts hrv).len
    clear hrv
    go_wp2_with fail
    go_loopw [3, 4] (fun o i wr => ∃ (k : Nat) (s : ByteArray), k ≤ xs.length ∧ i = .int .i64 k ∧ o = .string s ∧ Hid (s = fmtTo xs k) ∧ s.size ≤ 400 ∧ Hid (Below w.heap.size w wr)) (fun _ i _ => xs.length - (intOf i).toNat)
    case atStart => exact ⟨0, ⟨#[]⟩, Nat.zero_le _, rfl, rfl, Lib.hid rfl, by show (0 : Nat) ≤ 400; omega, Hb1⟩
    case round =>
      obtain ⟨k, s, hk, rfl, rfl, Hse, hss, Hb⟩ := hrel
      by_cases hlt : k < xs.length
      · obtain ⟨ad, x, rfl, hx, hcA, hcB⟩ := (HA.out.below Hb.out).two hlt
        have hx12 := Hsz.out x (List.mem_of_getElem? hx)
        obtain ⟨hx1, hx2⟩ := hx12
        simp only [rtf] at hcA hcB
        have z1 : (⟨#[62]⟩ : ByteArray).size = 1 := rfl
        have z2 : (⟨#[32]⟩ : ByteArray).size = 1 := rfl
        have hle := fmt_size Hsz.out (k + 1)
        by_cases h0 : 0 < k
        · have h0' : (0 : Int) < (k : Int) := by omega
          have Hnx : Hid (s ++ ⟨#[32]⟩ ++ x.1 ++ ⟨#[62]⟩ ++ x.2 = fmtTo xs (k + 1)) := Lib.hid (by rw [fmt_next hx h0, ← Hse.out])
          have q1 : (s ++ (⟨#[32]⟩ : ByteArray)).size ≤ 401 := by rw [ByteArray.size_append]; omega
          have q2 : (s ++ (⟨#[32]⟩ : ByteArray) ++ x.1).size ≤ 408 := by rw [ByteArray.size_append]; omega
          have q3 : (s ++ (⟨#[32]⟩ : ByteArray) ++ x.1 ++ (⟨#[62]⟩ : ByteArray)).size ≤ 409 := by rw [ByteArray.size_append]; omega
          have q4 : (s ++ (⟨#[32]⟩ : ByteArray) ++ x.1 ++ (⟨#[62]⟩ : ByteArray) ++ x.2).size ≤ 400 := by rw [Hnx.out]; omega
          clear hx hle h0
          go_wp2_with fail
          go_quiet (fail)
          go_wp2_with fail
          go_roundw
          case rel => exact ⟨k + 1, _, by omega, by go_num, rfl, Hnx, q4, Lib.hid (below_drewN Hb.out _)⟩
          case measure => simp [intOf]; omega
        · have hk0 : k = 0 := by omega
          subst hk0
          have hs0 : s = ⟨#[]⟩ := Hse.out
          subst hs0
          have Hnx : Hid ((⟨#[]⟩ : ByteArray) ++ x.1 ++ ⟨#[62]⟩ ++ x.2 = fmtTo xs 1) := Lib.hid (fmt_first hx).symm
          have z0 : (⟨#[]⟩ : ByteArray).size = 0 := rfl
          have q2 : ((⟨#[]⟩ : ByteArray) ++ x.1).size ≤ 408 := by rw [ByteArray.size_append]; omega
          have q3 : ((⟨#[]⟩ : ByteArray) ++ x.1 ++ (⟨#[62]⟩ : ByteArray)).size ≤ 409 := by rw [ByteArray.size_append]; omega
          have q4 : ((⟨#[]⟩ : ByteArray) ++ x.1 ++ (⟨#[62]⟩ : ByteArray) ++ x.2).size ≤ 400 := by have := fmt_size Hsz.out 1; rw [Hnx.out]; omega
          simp only [Nat.zero_mul, Addr.add_zero'] at hcA hcB
          clear hx hle h0
          go_wp2_with fail
          go_quiet (fail)
          go_wp2_with fail
          go_roundw
          case rel => exact ⟨1, _, by omega, by go_num, rfl, Hnx, q4, Lib.hid (below_drewN Hb.out _)⟩
          case measure => simp [intOf]; omega
      · have hk' : k = xs.length := by omega
        subst hk'
        by_cases h0 : 0 < xs.length
        · have hne := fmt_ne h0
          rw [← Hse.out] at hne
          have H2 := Lib.hid (dash_any s wr false hne)
          have Hyes : Hid (fmtR xs = s) := Lib.hid (by rw [fmtR_yes Hrv.out h0, Hse.out])
          clear hne
          go_wp2_with fail
          refine H2.out.mono ?_
          rintro e w' ⟨rfl, rfl⟩
          go_wp2_with fail
          go_ret
          exact ⟨ret_str (by rw [Hyes.out]), Hb.out⟩
        · have h0' : xs.length = 0 := by omega
          have hs0 : s = ⟨#[]⟩ := Hse.out.trans (by rw [h0']; rfl)
          have hne : s.toList.isEmpty = true := by rw [hs0, tl_data]; rfl
          have H2 := Lib.hid (dash_any s wr true hne)
          have Hyes := Lib.hid (fmtR_nil Hrv.out h0')
          clear hne hs0 h0 h0'
          go_wp2_with fail
          refine H2.out.mono ?_
          rintro e w' ⟨rfl, rfl⟩
          go_wp2_with fail
          go_ret
          exact ⟨ret_str (by rw [Hyes.out]), Hb.out⟩

end Go.Proofs.YtebplaaneeekdaaDoor
