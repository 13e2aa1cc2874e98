
/- The walks of FormatRules. -/
import Derived.Test.YthmngaioimohaaaNt6
import Derived.Test.YthmngaioimohaaaNtJoin
import Derived.Test.YthmngaioimohaaaNtStrs
namespace Go.Proofs.Ythmngaioimohaaa
open Go.RowKit
set_option linter.unusedVariables false

def ruleT (x : Rul) : ByteArray := x.1 ++ ⟨#[62]⟩ ++ x.2
/-- The text of the first k rules. -/
def fmtTo (xs : List Rul) : Nat → ByteArray
  | 0 => ⟨#[]⟩
  | k + 1 => match xs[k]? with
    | some x => (if 0 < k then fmtTo xs k ++ ⟨#[32]⟩ else fmtTo xs k) ++ x.1 ++ ⟨#[62]⟩ ++ x.2
    | none => fmtTo xs k
def fmtR (xs : List Rul) : ByteArray := if rv xs then (if xs.length = 0 then ⟨#[45]⟩ else fmtTo xs xs.length) else ⟨#[]⟩
theorem fmt_first {xs : List Rul} {x : Rul} (h : xs[0]? = some x) : fmtTo xs 1 = ⟨#[]⟩ ++ x.1 ++ ⟨#[62]⟩ ++ x.2 := by rw [fmtTo, h]; rfl
theorem fmt_next {xs : List Rul} {k : Nat} {x : Rul} (h : xs[k]? = some x) (hk : 0 < k) : fmtTo xs (k + 1) = fmtTo xs k ++ ⟨#[32]⟩ ++ x.1 ++ ⟨#[62]⟩ ++ x.2 := by rw [fmtTo, h]; simp [hk]
theorem fmt_size {xs : List Rul} (hs : ∀ x ∈ xs, x.1.size ≤ 7 ∧ x.2.size ≤ 8) : ∀ k, (fmtTo xs k).size ≤ k * 17
  | 0 => by show (0 : Nat) ≤ 0 * 17; omega
  | k + 1 => by
    have ih := fmt_size hs k
    cases h : xs[k]? with
    | none => rw [fmtTo, h]; simp only; omega
    | some x =>
      have hx := hs x (List.mem_of_getElem? h)
      have z1 : (⟨#[62]⟩ : ByteArray).size = 1 := rfl
      have z2 : (⟨#[32]⟩ : ByteArray).size = 1 := rfl
      by_cases hk : 0 < k
      · rw [fmt_next h hk]; simp only [ByteArray.size_append]; omega
      · have : k = 0 := by omega
        subst this
        rw [fmt_first h]; simp only [ByteArray.size_append]
        have z3 : (⟨#[]⟩ : ByteArray).size = 0 := rfl
        omega
theorem dl_fmt {xs : List Rul} : ∀ k, 0 < k → k ≤ xs.length → dl (fmtTo xs k) = Lib.join ((xs.take k).map fun x => (ruleT x).data.toList) [32]
  | 0, h, _ => by omega
  | k + 1, _, hl => by
    have hkl : k < xs.length := by omega
    have hx := List.getElem?_eq_getElem hkl
    generalize xs[k] = x at hx
    by_cases hk : 0 < k
    · have ih := dl_fmt (xs := xs) k hk (by omega)
      rw [fmt_next hx hk, take_snoc hx, List.map_append]
      simp only [dl_app]
      rw [ih]
      obtain ⟨y, l, hy⟩ : ∃ y l, xs.take k = y :: l := by
        cases hq : xs.take k with
        | nil =>
          have := congrArg List.length hq
          rw [List.length_take, List.length_nil] at this
          omega
        | cons y l => exact ⟨y, l, rfl⟩
      rw [hy, List.map_cons, List.cons_append, Lib.join_cons, Lib.join_cons]
      simp [Lib.joinTail, ruleT, dl]
    · have : k = 0 := by omega
      subst this
      rw [fmt_first hx, take_snoc hx]
      simp [Lib.join_one, ruleT, dl]
theorem fmt_join {xs : List Rul} (h : 0 < xs.length) : (⟨(Lib.join ((xs.map ruleT).map (·.data.toList)) [32]).toArray⟩ : ByteArray) = fmtTo xs xs.length := by
  have e := dl_fmt xs.length h (Nat.le_refl _)
  rw [List.take_length] at e
  apply dl_inj
  rw [e]
  simp [dl]; rfl
theorem fmt_ne {xs : List Rul} (h : 0 < xs.length) : (fmtTo xs xs.length).toList.isEmpty = false := by
  obtain ⟨k, hk⟩ : ∃ k, xs.length = k + 1 := ⟨xs.length - 1, by omega⟩
  have hx := List.getElem?_eq_getElem (l := xs) (i := k) (by omega)
  generalize xs[k] = x at hx
  rw [hk, tl_data]
  have key : 0 < (fmtTo xs (k + 1)).size := by
    have z1 : (⟨#[62]⟩ : ByteArray).size = 1 := rfl
    by_cases h0 : 0 < k
    · rw [fmt_next hx h0]; simp only [ByteArray.size_append]; omega
    · have : k = 0 := by omega
      subst this
      rw [fmt_first hx]; simp only [ByteArray.size_append]; omega
  cases hd : (fmtTo xs (k + 1)).data.toList with
  | cons a l => rfl
  | nil =>
    have h9 : (fmtTo xs (k + 1)).data.toList.length = 0 := by rw [hd]; rfl
    have h8 : (fmtTo xs (k + 1)).data.toList.length = (fmtTo xs (k + 1)).size := by simp
    omega
theorem fmtR_no {xs : List Rul} (h : rv xs = false) : fmtR xs = ⟨#[]⟩ := by simp [fmtR, h]
theorem fmtR_nil {xs : List Rul} (h : rv xs = true) (h0 : xs.length = 0) : fmtR xs = ⟨#[45]⟩ := by simp [fmtR, h, h0]
theorem fmtR_yes {xs : List Rul} (h : rv xs = true) (h0 : 0 < xs.length) : fmtR xs = fmtTo xs xs.length := by rw [fmtR, h, if_pos rfl, if_neg (by omega)]

theorem dash_any (s : ByteArray) (w : World) (b : Bool) (hb : s.toList.isEmpty = b) :
    Calls Try.prog 48 #[.string s] w fun e w' => e = .returned (.string (if b then ⟨#[45]⟩ else s)) ∧ w = w' := by
  have e1 : (s.toList == (⟨#[]⟩ : ByteArray).toList) = b := by
    rw [← hb, tl_data, tl_data]
    cases s.data.toList <;> rfl
  cases b with
  | true =>
    go_enter Try.func48, Try.ntmps48
    go_wp2_with fail
    go_ret
    exact ⟨rfl, rfl⟩
  | false =>
    go_enter Try.func48, Try.ntmps48
    go_wp2_with fail
    go_ret
    exact ⟨rfl, rfl⟩

set_option maxRecDepth 100000 in
set_option maxHeartbeats 1600000 in
theorem spec_fmt (v : Value) (xs : List Rul) (w : World) (h : Rt w v xs) (hs : Szr xs) :
    Calls Try.prog 32 #[v] w fun e w' => e = .returned (.string (fmtR xs)) ∧ Below w.heap.size w w' := by
  have H1 := Lib.hid (spec_rv v xs w h hs)
  obtain ⟨A, c, rfl, hA, hc1, hc2⟩ := h
  unfold maxLen at hc2
  have HA := Lib.hid hA
  clear hs hA
  go_enter Try.func32, Try.ntmps32
  go_wp2_with fail
  refine H1.out.mono ?_
  rintro e w1 ⟨rfl, hb1⟩
  have Hb1 := Lib.hid hb1
  clear H1 hb1
  cases hrv : rv xs with
  | false =>
    have Hno := Lib.hid (fmtR_no hrv)
    clear hrv
    go_wp2_with fail
    go_ret
    exact ⟨ret_str Hno.out.symm, Hb1.out⟩
  | true =>
    have Hrv := Lib.hid hrv
    have Hsz := Lib.hid (rv_sizes hrv)
    have hl20 := (rv_parts hrv).len
    clear hrv
    go_wp2_with fail
    go_loopw [3, 4] (fun o i wr => ∃ (k : Nat) (s : ByteArray), k ≤ xs.length ∧ i = .int .i64 k ∧ o = .string s ∧ Hid (s = fmtTo xs k) ∧ s.size ≤ 400 ∧ Hid (Below w.heap.size w wr)) (fun _ i _ => xs.length - (intOf i).toNat)
    case atStart => exact ⟨0, ⟨#[]⟩, Nat.zero_le _, rfl, rfl, Lib.hid rfl, by show (0 : Nat) ≤ 400; omega, Hb1⟩
    case round =>
      obtain ⟨k, s, hk, rfl, rfl, Hse, hss, Hb⟩ := hrel
      by_cases hlt : k < xs.length
      · obtain ⟨ad, x, rfl, hx, hcA, hcB⟩ := (HA.out.below Hb.out).two hlt
        have hx12 := Hsz.out x (List.mem_of_getElem? hx)
        obtain ⟨hx1, hx2⟩ := hx12
        simp only [rtf] at hcA hcB
        have z1 : (⟨#[62]⟩ : ByteArray).size = 1 := rfl
        have z2 : (⟨#[32]⟩ : ByteArray).size = 1 := rfl
        have hle := fmt_size Hsz.out (k + 1)
        by_cases h0 : 0 < k
        · have h0' : (0 : Int) < (k : Int) := by omega
          have Hnx : Hid (s ++ ⟨#[32]⟩ ++ x.1 ++ ⟨#[62]⟩ ++ x.2 = fmtTo xs (k + 1)) := Lib.hid (by rw [fmt_next hx h0, ← Hse.out])
          have q1 : (s ++ (⟨#[32]⟩ : ByteArray)).size ≤ 401 := by rw [ByteArray.size_append]; omega
          have q2 : (s ++ (⟨#[32]⟩ : ByteArray) ++ x.1).size ≤ 408 := by rw [ByteArray.size_append]; omega
          have q3 : (s ++ (⟨#[32]⟩ : ByteArray) ++ x.1 ++ (⟨#[62]⟩ : ByteArray)).size ≤ 409 := by rw [ByteArray.size_append]; omega
          have q4 : (s ++ (⟨#[32]⟩ : ByteArray) ++ x.1 ++ (⟨#[62]⟩ : ByteArray) ++ x.2).size ≤ 400 := by rw [Hnx.out]; omega
          clear hx hle h0
          go_wp2_with fail
          go_quiet (fail)
          go_wp2_with fail
          go_roundw
          case rel => exact ⟨k + 1, _, by omega, by go_num, rfl, Hnx, q4, Lib.hid (below_drewN Hb.out _)⟩
          case measure => simp [intOf]; omega
        · have hk0 : k = 0 := by omega
          subst hk0
          have hs0 : s = ⟨#[]⟩ := Hse.out
          subst hs0
          have Hnx : Hid ((⟨#[]⟩ : ByteArray) ++ x.1 ++ ⟨#[62]⟩ ++ x.2 = fmtTo xs 1) := Lib.hid (fmt_first hx).symm
          have z0 : (⟨#[]⟩ : ByteArray).size = 0 := rfl
          have q2 : ((⟨#[]⟩ : ByteArray) ++ x.1).size ≤ 408 := by rw [ByteArray.size_append]; omega
          have q3 : ((⟨#[]⟩ : ByteArray) ++ x.1 ++ (⟨#[62]⟩ : ByteArray)).size ≤ 409 := by rw [ByteArray.size_append]; omega
          have q4 : ((⟨#[]⟩ : ByteArray) ++ x.1 ++ (⟨#[62]⟩ : ByteArray) ++ x.2).size ≤ 400 := by have := fmt_size Hsz.out 1; rw [Hnx.out]; omega
          simp only [Nat.zero_mul, Addr.add_zero'] at hcA hcB
          clear hx hle h0
          go_wp2_with fail
          go_quiet (fail)
          go_wp2_with fail
          go_roundw
          case rel => exact ⟨1, _, by omega, by go_num, rfl, Hnx, q4, Lib.hid (below_drewN Hb.out _)⟩
          case measure => simp [intOf]; omega
      · have hk' : k = xs.length := by omega
        subst hk'
        by_cases h0 : 0 < xs.length
        · have hne := fmt_ne h0
          rw [← Hse.out] at hne
          have H2 := Lib.hid (dash_any s wr false hne)
          have Hyes : Hid (fmtR xs = s) := Lib.hid (by rw [fmtR_yes Hrv.out h0, Hse.out])
          clear hne
          go_wp2_with fail
          refine H2.out.mono ?_
          rintro e w' ⟨rfl, rfl⟩
          go_wp2_with fail
          go_ret
          exact ⟨ret_str (by rw [Hyes.out]), Hb.out⟩
        · have h0' : xs.length = 0 := by omega
          have hs0 : s = ⟨#[]⟩ := Hse.out.trans (by rw [h0']; rfl)
          have hne : s.toList.isEmpty = true := by rw [hs0, tl_data]; rfl
          have H2 := Lib.hid (dash_any s wr true hne)
          have Hyes := Lib.hid (fmtR_nil Hrv.out h0')
          clear hne hs0 h0 h0'
          go_wp2_with fail
          refine H2.out.mono ?_
          rintro e w' ⟨rfl, rfl⟩
          go_wp2_with fail
          go_ret
          exact ⟨ret_str (by rw [Hyes.out]), Hb.out⟩

theorem join_len {m : Nat} {sep : List UInt8} (hsep : sep.length = 1) : ∀ {l : List (List UInt8)}, (∀ x ∈ l, x.length ≤ m) → (Lib.join l sep).length ≤ l.length * (m + 1)
  | [], _ => by rw [Lib.join_nil]; simp
  | x :: r, h => by
    rw [Lib.join_cons, List.length_append, List.length_cons]
    have h1 := h x (by simp)
    have key : ∀ r : List (List UInt8), (∀ x ∈ r, x.length ≤ m) → (Lib.joinTail sep r).length ≤ r.length * (m + 1) := by
      intro r
      induction r with
      | nil => intro _; simp [Lib.joinTail]
      | cons y r ih =>
        intro hr
        have h2 := hr y (by simp)
        have h3 := ih fun z hz => hr z (by simp [hz])
        have e : Lib.joinTail sep (y :: r) = (sep ++ y) ++ Lib.joinTail sep r := by simp [Lib.joinTail]
        rw [e, List.length_append, List.length_append, hsep, List.length_cons, Nat.add_mul]; omega
    have h2 := key r fun z hz => h z (by simp [hz])
    rw [Nat.add_mul]; omega

set_option maxRecDepth 100000 in
set_option maxHeartbeats 1600000 in
theorem impl_fmt (v : Value) (xs : List Rul) (w : World) (h : Rt w v xs) (hs : Szr xs) :
    Calls Try.prog 33 #[v] w fun e w' => e = .returned (.string (fmtR xs)) ∧ Below w.heap.size w w' := by
  have H1 := Lib.hid (impl_rv v xs w h hs)
  obtain ⟨A, c, rfl, hA, hc1, hc2⟩ := h
  unfold maxLen at hc2
  have HA := Lib.hid hA
  clear hs hA
  go_enter Try.func33, Try.ntmps33
  go_wp2_with fail
  refine H1.out.mono ?_
  rintro e w1 ⟨rfl, hb1⟩
  have Hb1 := Lib.hid hb1
  clear H1 hb1
  cases hrv : rv xs with
  | false =>
    have Hno := Lib.hid (fmtR_no hrv)
    clear hrv
    go_wp2_with fail
    go_ret
    exact ⟨ret_str Hno.out.symm, Hb1.out⟩
  | true =>
    have Hrv := Lib.hid hrv
    have Hsz := Lib.hid (rv_sizes hrv)
    have hl20 := (rv_parts hrv).len
    clear hrv
    by_cases h0 : xs.length = 0
    · have e0 : ((xs.length : Int) == 0) = true := by simp [h0]
      have Hyes := Lib.hid (fmtR_nil Hrv.out h0)
      clear h0
      go_wp2_with fail
      go_ret
      exact ⟨ret_str Hyes.out.symm, Hb1.out⟩
    · have e0 : ((xs.length : Int) == 0) = false := by simp only [beq_eq_false_iff_ne]; omega
      have hpos : 0 < xs.length := by omega
      have Hpos := Lib.hid hpos
      obtain ⟨i0, hi, hz0, hz1, hz2⟩ := info_parts str_info
      clear h0
      go_wp2_with (at_make; refine wpList_make_full _ rfl _ _ _ rfl w.heap.size 9 i0 _ 1 Try.underlying33 hi hz0 hz1 _ _ _ _ xs.length rfl rfl rfl rfl (by rw [hz2]; omega) (by unfold maxLen; omega) Hb1.out.size ?_; intro w2 hown2 hg2)
      have Hb2 : Hid (Below w.heap.size w w2) := Lib.hid (Hb1.out.grown hg2 Hb1.out.size (by simp))
      have H0 : Hid (∃ ys, Filled ys (xs.map ruleT) 0 ∧ w2.ownsRow w.heap.size 9 1 (.slice (some ⟨w1.heap.size, 0, none⟩) xs.length xs.length) xs.length (strs ys)) := Lib.hid ⟨List.replicate xs.length ⟨#[]⟩, ⟨by simp, by simp⟩, by rw [made_strs] at hown2; exact hown2⟩
      have Hg := Lib.hid Hb1.out.size
      clear hown2 hg2
      go_loopw [17] (fun i wr => ∃ k : Nat, k ≤ xs.length ∧ i = .int .i64 k ∧ Hid (Below w.heap.size w wr) ∧ Hid (∃ ys, Filled ys (xs.map ruleT) k ∧ wr.ownsRow w.heap.size 9 1 (.slice (some ⟨w1.heap.size, 0, none⟩) xs.length xs.length) xs.length (strs ys))) (fun i _ => xs.length - (intOf i).toNat)
      case atStart => exact ⟨0, Nat.zero_le _, rfl, Hb2, H0⟩
      case round =>
        obtain ⟨k, hk, rfl, Hb, Hys⟩ := hrel
        clear H0 Hb2
        by_cases hlt : k < xs.length
        · obtain ⟨ad, x, rfl, hx, hcA, hcB⟩ := (HA.out.below Hb.out).two hlt
          obtain ⟨hx1, hx2⟩ := Hsz.out x (List.mem_of_getElem? hx)
          simp only [rtf] at hcA hcB
          have z1 : (⟨#[62]⟩ : ByteArray).size = 1 := rfl
          have q1 : (x.1 ++ (⟨#[62]⟩ : ByteArray)).size ≤ 8 := by rw [ByteArray.size_append]; omega
          obtain ⟨ys, hf, hown⟩ := Hys.out
          have hyk : k < ys.length := by rw [hf.len]; simpa using hlt
          have hc3 : wr.cell? ⟨w1.heap.size, k, none⟩ = some (.string ys[k]) := (hown.cellAt _ (by omega)).trans (strs_get (List.getElem?_eq_getElem hyk))
          have hf3 : wr.frozen? ⟨w1.heap.size, k, none⟩ = false := hown.frozenAt _
          have hbl : w1.heap.size < wr.heap.size := (hown.lt _ rfl).2
          have Hf := Lib.hid (hf.step (show (xs.map ruleT)[k]? = some (ruleT x) by simp [hx]))
          have hst := (hown.stored k (.string (ruleT x))).1
          rw [strs_set] at hst
          have Hst : Hid (∀ o, ((wr.setCell ⟨w1.heap.size, k, none⟩ (.string (ruleT x))).alloc o).ownsRow w.heap.size 9 1 (.slice (some ⟨w1.heap.size, 0, none⟩) xs.length xs.length) xs.length (strs (ys.set k (ruleT x)))) := Lib.hid fun o => own_below hst ((Below.refl _ _).alloc (Nat.le_refl _) o)
          have HB : Hid (∀ o, Below w.heap.size w ((wr.setCell ⟨w1.heap.size, k, none⟩ (.string (ruleT x))).alloc o)) := Lib.hid fun o => by
            have h1 : Below w.heap.size w (wr.setCell ⟨w1.heap.size, k, none⟩ (.string (ruleT x))) := Hb.out.setCell Hg.out _
            exact h1.alloc h1.size o
          clear hx hf hown hst
          go_wp2_with fail
          go_roundw
          case rel => exact ⟨k + 1, by omega, by go_num, Lib.hid (HB.out _), Lib.hid ⟨_, Hf.out, Hst.out _⟩⟩
          case measure => simp [intOf]; omega
        · have hk' : k = xs.length := by omega
          subst hk'
          obtain ⟨ys, hf, hown⟩ := Hys.out
          have hys : ys = xs.map ruleT := by
            have := hf.head
            rwa [List.take_of_length_le (by rw [hf.len]; simp), List.take_of_length_le (by simp)] at this
          subst hys
          have hll : (xs.map ruleT).length = xs.length := by simp
          have HJ := join_any w1.heap.size 0 xs.length (xs.map ruleT) ⟨#[32]⟩ wr (fun j x hj => by rw [Nat.zero_add]; exact (hown.cellAt j (by have := (List.getElem?_eq_some_iff.1 hj).1; rw [hll] at this; omega)).trans (strs_get hj)) (hown.lt _ rfl).2 (by rw [hll]; omega) (by rw [hll]; exact Nat.le_refl _) (by
            have := join_len (m := 16) (sep := (⟨#[32]⟩ : ByteArray).data.toList) rfl (l := (xs.map ruleT).map (·.data.toList)) (fun y hy => by
              simp only [List.map_map, List.mem_map, Function.comp] at hy
              obtain ⟨x, hx, rfl⟩ := hy
              have h12 := Hsz.out x hx
              have z1 : (⟨#[62]⟩ : ByteArray).size = 1 := rfl
              have : (ruleT x).size ≤ 16 := by rw [ruleT, ByteArray.size_append, ByteArray.size_append]; omega
              simpa using this)
            refine Nat.le_trans this ?_
            simp only [List.length_map]
            omega)
          rw [hll] at HJ
          have HJ := Lib.hid HJ
          have Hyes := Lib.hid (fmtR_yes Hrv.out Hpos.out)
          have Hfj := Lib.hid (fmt_join Hpos.out)
          clear hf hown hll
          go_wp2_with fail
          refine HJ.out.mono ?_
          rintro e w5 ⟨rfl, hb5⟩
          go_wp2_with fail
          go_ret
          exact ⟨ret_str (by rw [Hyes.out, ← Hfj.out]; simp only [List.map_map]), below_trans' Hb.out hb5⟩

end Go.Proofs.Ythmngaioimohaaa
