
/- The walks of FormatNetwork. -/
import Derived.Test.YthmngaioimohaaaNtW
import Derived.Test.YthmngaioimohaaaNtF
namespace Go.Proofs.Ythmngaioimohaaa
open Go.RowKit
set_option linter.unusedVariables false

def offT (o : Off) : ByteArray := o.1 ++ ⟨#[32]⟩ ++ fmtR o.2
/-- The text of the first k offices. -/
def netTo (net : List Off) : Nat → ByteArray
  | 0 => ⟨#[]⟩
  | k + 1 => match net[k]? with
    | some o => (if 0 < k then netTo net k ++ ⟨#[59]⟩ else netTo net k) ++ o.1 ++ ⟨#[32]⟩ ++ fmtR o.2
    | none => netTo net k
def fmtN (net : List Off) : ByteArray := if nv net then netTo net net.length else ⟨#[]⟩
theorem net_first {net : List Off} {k : Nat} {o : Off} (h : net[k]? = some o) (hk : ¬ 0 < k) : netTo net (k + 1) = netTo net k ++ o.1 ++ ⟨#[32]⟩ ++ fmtR o.2 := by rw [netTo, h]; simp [hk]
theorem net_next {net : List Off} {k : Nat} {o : Off} (h : net[k]? = some o) (hk : 0 < k) : netTo net (k + 1) = netTo net k ++ ⟨#[59]⟩ ++ o.1 ++ ⟨#[32]⟩ ++ fmtR o.2 := by rw [netTo, h]; simp [hk]
theorem fmtR_size (rs : List Rul) : (fmtR rs).size ≤ 341 := by
  have z1 : (⟨#[45]⟩ : ByteArray).size = 1 := rfl
  have z0 : (⟨#[]⟩ : ByteArray).size = 0 := rfl
  unfold fmtR
  split
  · next h =>
    have h1 := fmt_size (rv_sizes h) rs.length
    have h2 := (rv_parts h).len
    split <;> omega
  · omega
theorem nameB_le {s : ByteArray} (h : nameB s = true) : s.size ≤ 8 := by
  rcases Nat.lt_or_ge 8 s.size with h3 | h3
  · rw [nameB_low (.inr h3)] at h; cases h
  · exact h3
set_option maxRecDepth 100000 in
theorem net_size {net : List Off} (hs : ∀ o ∈ net, o.1.size ≤ 8) : ∀ k, (netTo net k).size ≤ k * 360
  | 0 => Nat.le_trans (Nat.le_of_eq (show (netTo net 0).size = 0 from rfl)) (Nat.zero_le _)
  | k + 1 => by
    have ih := net_size hs k
    cases h : net[k]? with
    | none => rw [netTo, h]; simp only; omega
    | some o =>
      have hx := hs o (List.mem_of_getElem? h)
      have hr := fmtR_size o.2
      have z1 : (⟨#[59]⟩ : ByteArray).size = 1 := rfl
      have z2 : (⟨#[32]⟩ : ByteArray).size = 1 := rfl
      by_cases hk : 0 < k
      · rw [net_next h hk]; simp only [ByteArray.size_append]; omega
      · rw [net_first h hk]; simp only [ByteArray.size_append]; omega
theorem dl_net {net : List Off} : ∀ k, 0 < k → k ≤ net.length → dl (netTo net k) = Lib.join ((net.take k).map fun x => (offT x).data.toList) [59]
  | 0, h, _ => by omega
  | k + 1, _, hl => by
    have hkl : k < net.length := by omega
    have hx := List.getElem?_eq_getElem hkl
    generalize net[k] = x at hx
    by_cases hk : 0 < k
    · have ih := dl_net (net := net) k hk (by omega)
      rw [net_next hx hk, take_snoc hx, List.map_append]
      simp only [dl_app]
      rw [ih]
      obtain ⟨y, l, hy⟩ : ∃ y l, net.take k = y :: l := by
        cases hq : net.take k with
        | nil =>
          have := congrArg List.length hq
          rw [List.length_take, List.length_nil] at this
          omega
        | cons y l => exact ⟨y, l, rfl⟩
      rw [hy, List.map_cons, List.cons_append, Lib.join_cons, Lib.join_cons]
      simp [Lib.joinTail, offT, dl]
    · have : k = 0 := by omega
      subst this
      rw [net_first hx hk, take_snoc hx]
      simp [Lib.join_one, offT, dl, netTo]
theorem net_join {net : List Off} (h : 0 < net.length) : (⟨(Lib.join ((net.map offT).map (·.data.toList)) [59]).toArray⟩ : ByteArray) = netTo net net.length := by
  have e := dl_net net.length h (Nat.le_refl _)
  rw [List.take_length] at e
  apply dl_inj
  rw [e]
  simp [dl]; rfl
theorem fmtN_no {net : List Off} (h : nv net = false) : fmtN net = ⟨#[]⟩ := by simp [fmtN, h]
theorem fmtN_yes {net : List Off} (h : nv net = true) : fmtN net = netTo net net.length := by simp [fmtN, h]

set_option maxRecDepth 100000 in
set_option maxHeartbeats 2000000 in
theorem spec_fmtN (v : Value) (net : List Off) (w : World) (h : InO w v net) (hs : SzO net) :
    Calls Try.prog 12 #[v] w fun e w' => e = .returned (.string (fmtN net)) ∧ Below w.heap.size w w' := by
  have H1 := Lib.hid (spec_nv v net w h hs)
  have H := Lib.hid h
  have Hs := Lib.hid hs
  obtain ⟨A, c, rfl, hc1, hc2⟩ := h.form
  unfold maxLen at hc2
  clear hs h
  go_enter Try.func12, Try.ntmps12
  go_wp2_with fail
  refine H1.out.mono ?_
  rintro e w1 ⟨rfl, hb1⟩
  have Hb1 := Lib.hid hb1
  clear H1 hb1
  cases hnv : nv net with
  | false =>
    have Hno := Lib.hid (fmtN_no hnv)
    clear hnv
    go_wp2_with fail
    go_ret
    exact ⟨ret_str Hno.out.symm, Hb1.out⟩
  | true =>
    have Hyes := Lib.hid (fmtN_yes hnv)
    have Hsz := Lib.hid (show ∀ o ∈ net, o.1.size ≤ 8 from fun o ho => nameB_le ((nv_parts hnv).name o ho))
    have hl8 := (nv_parts hnv).len.2
    clear hnv
    go_wp2_with fail
    go_loopw [3, 4] (fun o i wr => ∃ (k : Nat) (s : ByteArray), k ≤ net.length ∧ i = .int .i64 k ∧ o = .string s ∧ Hid (s = netTo net k) ∧ s.size ≤ 4000 ∧ Hid (Below w.heap.size w wr)) (fun _ i _ => net.length - (intOf i).toNat)
    case atStart => exact ⟨0, ⟨#[]⟩, Nat.zero_le _, rfl, rfl, Lib.hid rfl, by show (0 : Nat) ≤ 4000; omega, Hb1⟩
    case round =>
      obtain ⟨k, s, hk, rfl, rfl, Hse, hss, Hb⟩ := hrel
      by_cases hlt : k < net.length
      · obtain ⟨ad, o, u, rfl, hx, hcA, hcB, hru⟩ := (H.out.below Hb.out).at_ hlt
        have Hru := Lib.hid hru
        obtain ⟨UA, uc, rfl, hu1, hu2, hu3⟩ := hru
        have hx1 := Hsz.out o (List.mem_of_getElem? hx)
        have HQ2 := Lib.hid (Hs.out o (List.mem_of_getElem? hx)).2
        have hle := net_size Hsz.out (k + 1)
        have hle0 := net_size Hsz.out k
        rw [← Hse.out] at hle0
        have hr := fmtR_size o.2
        have z1 : (⟨#[59]⟩ : ByteArray).size = 1 := rfl
        have z2 : (⟨#[32]⟩ : ByteArray).size = 1 := rfl
        have Hx := Lib.hid hx
        by_cases h0 : 0 < k
        · have h0' : (0 : Int) < (k : Int) := by omega
          have Hnx : Hid (s ++ ⟨#[59]⟩ ++ o.1 ++ ⟨#[32]⟩ ++ fmtR o.2 = netTo net (k + 1)) := Lib.hid (by rw [net_next hx h0, ← Hse.out])
          have q1 : (s ++ (⟨#[59]⟩ : ByteArray)).size ≤ 4001 := by rw [ByteArray.size_append]; omega
          have q2 : (s ++ (⟨#[59]⟩ : ByteArray) ++ o.1).size ≤ 4010 := by rw [ByteArray.size_append]; omega
          have q3 : (s ++ (⟨#[59]⟩ : ByteArray) ++ o.1 ++ (⟨#[32]⟩ : ByteArray)).size ≤ 4011 := by rw [ByteArray.size_append]; omega
          have q4 : (s ++ (⟨#[59]⟩ : ByteArray) ++ o.1 ++ (⟨#[32]⟩ : ByteArray) ++ fmtR o.2).size ≤ 4000 := by rw [Hnx.out]; omega
          clear hx hle hle0 h0 hu1
          go_wp2_with fail
          go_region_with (go_at_call 32; refine (spec_fmt _ o.2 _ (Sl.below Hru.out (by first | exact (Below.refl _ _).drew | exact Below.refl _ _)) HQ2.out).mono ?_; rintro e w2 ⟨rfl, hb2⟩; obtain ⟨ad', o', u', ha, ho', hcA', hcB', _⟩ := (H.out.below (below_trans' Hb.out.drew hb2)).at_ hlt; injection ha with ha; subst ha; rw [Hx.out] at ho'; injection ho' with ho'; subst ho')
          all_goals
            replace Hb := Lib.hid (below_trans' Hb.out.drew hb2)
            clear hb2 hcA hcB hcA' hcB'
            go_wp2_with fail
            go_roundw
            case rel => exact ⟨k + 1, _, by omega, by go_num, rfl, Hnx, q4, Hb⟩
            case measure => simp [intOf]; omega
        · have h0' : ¬ (0 : Int) < (k : Int) := by omega
          have Hnx : Hid (s ++ o.1 ++ ⟨#[32]⟩ ++ fmtR o.2 = netTo net (k + 1)) := Lib.hid (by rw [net_first hx h0, ← Hse.out])
          have q2 : (s ++ o.1).size ≤ 4010 := by rw [ByteArray.size_append]; omega
          have q3 : (s ++ o.1 ++ (⟨#[32]⟩ : ByteArray)).size ≤ 4011 := by rw [ByteArray.size_append]; omega
          have q4 : (s ++ o.1 ++ (⟨#[32]⟩ : ByteArray) ++ fmtR o.2).size ≤ 4000 := by rw [Hnx.out]; omega
          clear hx hle hle0 h0 hu1
          go_wp2_with fail
          go_region_with (go_at_call 32; refine (spec_fmt _ o.2 _ (Sl.below Hru.out (by first | exact (Below.refl _ _).drew | exact Below.refl _ _)) HQ2.out).mono ?_; rintro e w2 ⟨rfl, hb2⟩; obtain ⟨ad', o', u', ha, ho', hcA', hcB', _⟩ := (H.out.below (below_trans' Hb.out.drew hb2)).at_ hlt; injection ha with ha; subst ha; rw [Hx.out] at ho'; injection ho' with ho'; subst ho')
          all_goals
            replace Hb := Lib.hid (below_trans' Hb.out.drew hb2)
            clear hb2 hcA hcB hcA' hcB'
            go_wp2_with fail
            go_roundw
            case rel => exact ⟨k + 1, _, by omega, by go_num, rfl, Hnx, q4, Hb⟩
            case measure => simp [intOf]; omega
      · have hk' : k = net.length := by omega
        subst hk'
        go_wp2_with fail
        go_ret
        exact ⟨ret_str (by rw [Hyes.out, Hse.out]), Hb.out⟩

end Go.Proofs.Ythmngaioimohaaa
