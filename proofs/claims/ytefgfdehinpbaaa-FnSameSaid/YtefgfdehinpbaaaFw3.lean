
/- The walks that follow orders: NextCode, ResolveCode, LongestChain. -/
import Derived.Test.YtefgfdehinpbaaaFw2
namespace Go.Proofs.Ytefgfdehinpbaaa
open Go.RowKit
set_option linter.unusedVariables false

def reS (o : Option (ByteArray × Nat)) : ByteArray := match o with | some p => p.1 | none => ⟨#[]⟩
def reN (o : Option (ByteArray × Nat)) : Int := match o with | some p => (p.2 : Int) | none => 0
/-- What is handed back of where letters arrive. -/
def reE (o : Option (ByteArray × Nat)) : Ending := .returned (.tuple #[.string (reS o), .int .i64 (reN o), .bool o.isSome])
theorem reE_some (c : ByteArray) (n : Nat) : reE (some (c, n)) = .returned (.tuple #[.string c, .int .i64 n, .bool true]) := rfl
theorem reE_none : reE none = .returned (.tuple #[.string ⟨#[]⟩, .int .i64 0, .bool false]) := rfl
theorem resF_zero (rs : List Fwd) (n : Nat) (c : ByteArray) : resF rs 0 n c = none := rfl
theorem res_step {rs : List Fwd} {k i : Nat} {c : ByteArray} {r : Fwd} (hk : k ≤ rs.length) (hi : idxF rs c = some i) (hr : rs[i]? = some r) : resF rs (rs.length + 1 - k) k c = resF rs (rs.length + 1 - (k + 1)) (k + 1) r.2 := by
  have e : rs.length + 1 - k = (rs.length + 1 - (k + 1)) + 1 := by omega
  rw [e, resF_go (nextF_some hi hr)]
theorem res_stop {rs : List Fwd} {k : Nat} {c : ByteArray} (hk : k ≤ rs.length) (hi : idxF rs c = none) : resF rs (rs.length + 1 - k) k c = some (c, k) := by
  have e : rs.length + 1 - k = (rs.length - k) + 1 := by omega
  rw [e, resF_end (by simp [nextF, hi])]

set_option maxRecDepth 100000 in
set_option maxHeartbeats 800000 in
theorem impl_res (v : Value) (xs : List Fwd) (c : ByteArray) (w : World) (h : Ft w v xs) (hl : xs.length ≤ 100) :
    Calls Try.prog 39 #[v, .string c] w fun e w' => e = reE (resolve xs c) ∧ Below w.heap.size w w' := by
  have Hv := Lib.hid h
  obtain ⟨A, cc, rfl, hA, hc1, hc2⟩ := h
  unfold maxLen at hc2
  have HA := Lib.hid hA
  clear hA
  go_enter Try.func39, Try.ntmps39
  go_wp2_with fail
  go_loopw [1, 7] (fun d i wr => ∃ (k : Nat) (s : ByteArray), k ≤ xs.length + 1 ∧ i = .int .i64 k ∧ d = .string s ∧ Hid (Below w.heap.size w wr) ∧ Hid (resolve xs c = resF xs (xs.length + 1 - k) k s)) (fun _ i _ => xs.length + 1 - (intOf i).toNat)
  case atStart => exact ⟨0, c, Nat.zero_le _, rfl, rfl, Lib.hid (Below.refl _ _), Lib.hid rfl⟩
  case round =>
    obtain ⟨k, s, hk, rfl, rfl, Hb, Hres⟩ := hrel
    by_cases hlt : k ≤ xs.length
    · have Hi := Lib.hid (impl_idx _ xs s wr (Hv.out.below Hb.out))
      go_wp2_with fail
      refine Hi.out.mono ?_
      rintro e w2 ⟨rfl, hb2⟩
      replace Hb := Lib.hid (below_trans' Hb.out hb2)
      clear hb2 Hi
      rcases idxI_cases xs s with ⟨e1, e2⟩ | ⟨i, r, e1, e2, hr, he, hil⟩
      · have Hr : Hid (resolve xs c = some (s, k)) := Lib.hid (by rw [Hres.out, res_stop hlt e2])
        clear e2
        rw [e1]
        go_wp2_with fail
        go_ret3
        exact ⟨by rw [Hr.out]; rfl, Hb.out⟩
      · obtain ⟨ad, r', rfl, hr', hcA, hcB⟩ := (HA.out.below Hb.out).two hil
        rw [hr] at hr'
        injection hr' with hr'
        subst hr'
        have Hr : Hid (resolve xs c = resF xs (xs.length + 1 - (k + 1)) (k + 1) r.2) := Lib.hid (by rw [Hres.out, res_step hlt e2 hr])
        simp only [ftf] at hcA hcB
        have e3 : decide ((i : Int) < 0) = false := decide_eq_false (by omega)
        clear e2 hr he Hres
        rw [e1]
        go_wp2_with fail
        go_roundw
        case rel => exact ⟨k + 1, _, by omega, by go_num, rfl, Hb, Hr⟩
        case measure => simp [intOf]; omega
    · have hk' : k = xs.length + 1 := by omega
      subst hk'
      have Hr : Hid (resolve xs c = none) := Lib.hid (by rw [Hres.out, Nat.sub_self, resF_zero])
      clear Hres
      go_wp2_with fail
      go_ret3
      exact ⟨by rw [Hr.out]; rfl, Hb.out⟩
set_option maxRecDepth 100000 in
set_option maxHeartbeats 800000 in
theorem spec_res (v : Value) (xs : List Fwd) (c : ByteArray) (w : World) (h : Ft w v xs) (hl : xs.length ≤ 100) :
    Calls Try.prog 41 #[v, .string c] w fun e w' => e = reE (resolve xs c) ∧ Below w.heap.size w w' := by
  have Hv := Lib.hid h
  obtain ⟨A, cc, rfl, hA, hc1, hc2⟩ := h
  unfold maxLen at hc2
  have HA := Lib.hid hA
  clear hA
  go_enter Try.func41, Try.ntmps41
  go_wp2_with fail
  go_loopw [1, 7] (fun d i wr => ∃ (k : Nat) (s : ByteArray), k ≤ xs.length + 1 ∧ i = .int .i64 k ∧ d = .string s ∧ Hid (Below w.heap.size w wr) ∧ Hid (resolve xs c = resF xs (xs.length + 1 - k) k s)) (fun _ i _ => xs.length + 1 - (intOf i).toNat)
  case atStart => exact ⟨0, c, Nat.zero_le _, rfl, rfl, Lib.hid (Below.refl _ _), Lib.hid rfl⟩
  case round =>
    obtain ⟨k, s, hk, rfl, rfl, Hb, Hres⟩ := hrel
    by_cases hlt : k ≤ xs.length
    · have Hi := Lib.hid (spec_idx _ xs s wr (Hv.out.below Hb.out))
      go_wp2_with fail
      refine Hi.out.mono ?_
      rintro e w2 ⟨rfl, hb2⟩
      replace Hb := Lib.hid (below_trans' Hb.out hb2)
      clear hb2 Hi
      rcases idxI_cases xs s with ⟨e1, e2⟩ | ⟨i, r, e1, e2, hr, he, hil⟩
      · have Hr : Hid (resolve xs c = some (s, k)) := Lib.hid (by rw [Hres.out, res_stop hlt e2])
        clear e2
        rw [e1]
        go_wp2_with fail
        go_ret3
        exact ⟨by rw [Hr.out]; rfl, Hb.out⟩
      · obtain ⟨ad, r', rfl, hr', hcA, hcB⟩ := (HA.out.below Hb.out).two hil
        rw [hr] at hr'
        injection hr' with hr'
        subst hr'
        have Hr : Hid (resolve xs c = resF xs (xs.length + 1 - (k + 1)) (k + 1) r.2) := Lib.hid (by rw [Hres.out, res_step hlt e2 hr])
        simp only [ftf] at hcA hcB
        have e3 : decide ((i : Int) < 0) = false := decide_eq_false (by omega)
        clear e2 hr he Hres
        rw [e1]
        go_wp2_with fail
        go_roundw
        case rel => exact ⟨k + 1, _, by omega, by go_num, rfl, Hb, Hr⟩
        case measure => simp [intOf]; omega
    · have hk' : k = xs.length + 1 := by omega
      subst hk'
      have Hr : Hid (resolve xs c = none) := Lib.hid (by rw [Hres.out, Nat.sub_self, resF_zero])
      clear Hres
      go_wp2_with fail
      go_ret3
      exact ⟨by rw [Hr.out]; rfl, Hb.out⟩

/-- NextCode; ResolveCode. -/
def nextO (rs : List Fwd) (c : ByteArray) : Option ByteArray := if fv rs then nextF rs c else none
def orF (o : Option ByteArray) : ByteArray := match o with | some s => s | none => ⟨#[]⟩
theorem nextO_no {rs : List Fwd} {c : ByteArray} (h : fv rs = false) : nextO rs c = none := by simp [nextO, h]
theorem nextO_yes {rs : List Fwd} {c : ByteArray} (h : fv rs = true) : nextO rs c = nextF rs c := by simp [nextO, h]
def resO (rs : List Fwd) (c : ByteArray) : Option (ByteArray × Nat) := if codeB c && fv rs then resolve rs c else none
theorem resO_code {rs : List Fwd} {c : ByteArray} (h : codeB c = false) : resO rs c = none := by simp [resO, h]
theorem resO_fv {rs : List Fwd} {c : ByteArray} (h : fv rs = false) : resO rs c = none := by simp [resO, h]
theorem resO_yes {rs : List Fwd} {c : ByteArray} (h : codeB c = true) (h2 : fv rs = true) : resO rs c = resolve rs c := by simp [resO, h, h2]

set_option maxRecDepth 100000 in
set_option maxHeartbeats 800000 in
theorem impl_next (v : Value) (xs : List Fwd) (c : ByteArray) (w : World) (h : Ft w v xs) (hs : Szf xs) :
    Calls Try.prog 24 #[v, .string c] w fun e w' => e = .returned (.tuple #[.string (orF (nextO xs c)), .bool (nextO xs c).isSome]) ∧ Below w.heap.size w w' := by
  have Hv := Lib.hid h
  have H1 := Lib.hid (impl_fv v xs w h hs)
  obtain ⟨A, cc, rfl, hA, hc1, hc2⟩ := h
  unfold maxLen at hc2
  have HA := Lib.hid hA
  clear hA hs
  go_enter Try.func24, Try.ntmps24
  go_wp2_with fail
  refine H1.out.mono ?_
  rintro e w1 ⟨rfl, hb⟩
  have Hb := Lib.hid hb
  clear H1 hb
  cases hrv : fv xs with
  | false =>
    have Hn := Lib.hid (nextO_no (c := c) hrv)
    clear hrv
    go_wp2_with fail
    go_ret2
    exact ⟨by rw [Hn.out]; rfl, Hb.out⟩
  | true =>
    have Hn := Lib.hid (nextO_yes (c := c) hrv)
    have Hi := Lib.hid (impl_idx _ xs c w1 (Hv.out.below Hb.out))
    clear hrv
    go_wp2_with fail
    refine Hi.out.mono ?_
    rintro e w2 ⟨rfl, hb2⟩
    replace Hb := Lib.hid (below_trans' Hb.out hb2)
    clear hb2 Hi
    rcases idxI_cases xs c with ⟨e1, e2⟩ | ⟨i, r, e1, e2, hr, he, hil⟩
    · have Hr : Hid (nextO xs c = none) := Lib.hid (by rw [Hn.out]; simp [nextF, e2])
      clear e2 Hn
      rw [e1]
      go_wp2_with fail
      go_ret2
      exact ⟨by rw [Hr.out]; rfl, Hb.out⟩
    · obtain ⟨ad, r', rfl, hr', hcA, hcB⟩ := (HA.out.below Hb.out).two hil
      rw [hr] at hr'
      injection hr' with hr'
      subst hr'
      have Hr : Hid (nextO xs c = some r.2) := Lib.hid (by rw [Hn.out, nextF_some e2 hr])
      simp only [ftf] at hcA hcB
      have e3 : decide ((i : Int) < 0) = false := decide_eq_false (by omega)
      clear e2 hr he Hn
      rw [e1]
      go_wp2_with fail
      go_ret2
      exact ⟨by rw [Hr.out]; rfl, Hb.out⟩

set_option maxRecDepth 100000 in
set_option maxHeartbeats 800000 in
theorem impl_resolve (v : Value) (xs : List Fwd) (c : ByteArray) (w : World) (h : Ft w v xs) (hs : Szf xs) (hl : xs.length ≤ 100) (hc : c.size ≤ maxLen) :
    Calls Try.prog 14 #[v, .string c] w fun e w' => e = reE (resO xs c) ∧ Below w.heap.size w w' := by
  have Hv := Lib.hid h
  have Hs := Lib.hid hs
  have H1 := Lib.hid (impl_cv c w hc)
  clear hs h
  go_enter Try.func14, Try.ntmps14
  go_wp2_with fail
  refine H1.out.mono ?_
  rintro e w1 ⟨rfl, rfl⟩
  clear H1
  cases hcv : codeB c with
  | false =>
    have Hn := Lib.hid (resO_code (rs := xs) hcv)
    clear hcv
    go_wp2_with fail
    go_ret3
    exact ⟨by rw [Hn.out]; rfl, Below.refl _ _⟩
  | true =>
    have H2 := Lib.hid (impl_fv v xs w Hv.out Hs.out)
    have Hcv := Lib.hid hcv
    clear hcv
    go_wp2_with fail
    refine H2.out.mono ?_
    rintro e w1 ⟨rfl, hb⟩
    have Hb := Lib.hid hb
    clear H2 hb
    cases hrv : fv xs with
    | false =>
      have Hn := Lib.hid (resO_fv (c := c) hrv)
      clear hrv
      go_wp2_with fail
      go_ret3
      exact ⟨by rw [Hn.out]; rfl, Hb.out⟩
    | true =>
      have Hn := Lib.hid (resO_yes Hcv.out hrv)
      have H3 := Lib.hid (impl_res v xs c w1 (Hv.out.below Hb.out) hl)
      unfold reE at H3
      clear hrv
      go_wp2_with fail
      refine H3.out.mono ?_
      rintro e w2 ⟨rfl, hb2⟩
      go_wp2_with fail
      go_ret3
      exact ⟨by rw [Hn.out]; rfl, below_trans' Hb.out hb2⟩
end Go.Proofs.Ytefgfdehinpbaaa
