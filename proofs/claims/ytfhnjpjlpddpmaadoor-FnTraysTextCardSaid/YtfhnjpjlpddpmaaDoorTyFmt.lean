
/- Plain texts of trays; a few small walks. -/
import Derived.Test.YtfhnjpjlpddpmaaDoorTy6
import Derived.Lib.ItoaNum
import Derived.Lib.Join
import Derived.Lib.Strings
namespace Go.Proofs.YtfhnjpjlpddpmaaDoor
open Go.RowKit
set_option linter.unusedVariables false

def dl (b : ByteArray) : List UInt8 := b.data.toList
theorem dl_inj {a b : ByteArray} (h : dl a = dl b) : a = b := by
  obtain ⟨⟨x⟩⟩ := a
  obtain ⟨⟨y⟩⟩ := b
  simp only [dl] at h
  subst h; rfl
theorem dl_app (a b : ByteArray) : dl (a ++ b) = dl a ++ dl b := by simp [dl]
/-- A number below a hundred. -/
def num (n : Nat) : ByteArray := if n < 10 then one8 (48 + n) else one8 (48 + n / 10) ++ one8 (48 + n % 10)
theorem num_one {n : Nat} (h : n < 10) : num n = one8 (48 + n) := if_pos h
theorem num_two {n : Nat} (h : ¬ n < 10) : num n = one8 (48 + n / 10) ++ one8 (48 + n % 10) := if_neg h
theorem num_size (n : Nat) : 1 ≤ (num n).size ∧ (num n).size ≤ 2 := by
  unfold num
  split
  · rw [one8_size]; omega
  · rw [ByteArray.size_append, one8_size, one8_size]; omega
theorem num_dec {n : Nat} (h : n < 100) : (⟨(Lib.decDigits n).toArray⟩ : ByteArray) = num n := by
  by_cases h1 : n < 10
  · rw [num_one h1, Lib.decDigits, dif_pos h1]; rfl
  · rw [num_two h1, Lib.decDigits, dif_neg h1, Lib.decDigits, dif_pos (show n / 10 < 10 by omega)]; rfl

def partT (x : ByteArray × ByteArray) : ByteArray := x.1 ++ ⟨#[58]⟩ ++ x.2
/-- The text of the first k parts. -/
def fmT (xs : List (ByteArray × ByteArray)) : Nat → ByteArray
  | 0 => ⟨#[]⟩
  | k + 1 => match xs[k]? with
    | some x => (if 0 < k then fmT xs k ++ ⟨#[32]⟩ else fmT xs k) ++ x.1 ++ ⟨#[58]⟩ ++ x.2
    | none => fmT xs k
theorem fm_first {xs : List (ByteArray × ByteArray)} {x : ByteArray × ByteArray} (h : xs[0]? = some x) : fmT xs 1 = ⟨#[]⟩ ++ x.1 ++ ⟨#[58]⟩ ++ x.2 := by rw [fmT, h]; rfl
theorem fm_next {xs : List (ByteArray × ByteArray)} {k : Nat} {x : ByteArray × ByteArray} (h : xs[k]? = some x) (hk : 0 < k) : fmT xs (k + 1) = fmT xs k ++ ⟨#[32]⟩ ++ x.1 ++ ⟨#[58]⟩ ++ x.2 := by rw [fmT, h]; simp [hk]
theorem fm_size {xs : List (ByteArray × ByteArray)} (hs : ∀ x ∈ xs, x.1.size ≤ 15 ∧ x.2.size ≤ 2) : ∀ k, (fmT xs k).size ≤ k * 19
  | 0 => by show (0 : Nat) ≤ 0 * 19; omega
  | k + 1 => by
    have ih := fm_size hs k
    cases h : xs[k]? with
    | none => rw [fmT, h]; simp only; omega
    | some x =>
      have hx := hs x (List.mem_of_getElem? h)
      have z1 : (⟨#[58]⟩ : ByteArray).size = 1 := rfl
      have z2 : (⟨#[32]⟩ : ByteArray).size = 1 := rfl
      by_cases hk : 0 < k
      · rw [fm_next h hk]; simp only [ByteArray.size_append]; omega
      · have : k = 0 := by omega
        subst this
        rw [fm_first h]; simp only [ByteArray.size_append]
        have z3 : (⟨#[]⟩ : ByteArray).size = 0 := rfl
        omega
theorem dl_fm {xs : List (ByteArray × ByteArray)} : ∀ k, 0 < k → k ≤ xs.length → dl (fmT xs k) = Lib.join ((xs.take k).map fun x => (partT x).data.toList) [32]
  | 0, h, _ => by omega
  | k + 1, _, hl => by
    have hkl : k < xs.length := by omega
    have hx := List.getElem?_eq_getElem hkl
    generalize xs[k] = x at hx
    by_cases hk : 0 < k
    · have ih := dl_fm (xs := xs) k hk (by omega)
      rw [fm_next hx hk, take_snoc hx, List.map_append]
      simp only [dl_app]
      rw [ih]
      obtain ⟨y, l, hy⟩ : ∃ y l, xs.take k = y :: l := by
        cases hq : xs.take k with
        | nil =>
          have := congrArg List.length hq
          rw [List.length_take, List.length_nil] at this
          omega
        | cons y l => exact ⟨y, l, rfl⟩
      rw [hy, List.map_cons, List.cons_append, Lib.join_cons, Lib.join_cons]
      simp [Lib.joinTail, partT, dl]
    · have : k = 0 := by omega
      subst this
      rw [fm_first hx, take_snoc hx]
      simp [Lib.join_one, partT, dl]
theorem fm_join {xs : List (ByteArray × ByteArray)} (h : 0 < xs.length) : (⟨(Lib.join ((xs.map partT).map (·.data.toList)) [32]).toArray⟩ : ByteArray) = fmT xs xs.length := by
  have e := dl_fm xs.length h (Nat.le_refl _)
  rw [List.take_length] at e
  apply dl_inj
  rw [e]
  simp [dl]; rfl
theorem fm_ne {xs : List (ByteArray × ByteArray)} (h : 0 < xs.length) : (fmT xs xs.length).toList.isEmpty = false := by
  obtain ⟨k, hk⟩ : ∃ k, xs.length = k + 1 := ⟨xs.length - 1, by omega⟩
  have hx := List.getElem?_eq_getElem (l := xs) (i := k) (by omega)
  generalize xs[k] = x at hx
  rw [hk, tl_data]
  have key : 0 < (fmT xs (k + 1)).size := by
    have z1 : (⟨#[58]⟩ : ByteArray).size = 1 := rfl
    by_cases h0 : 0 < k
    · rw [fm_next hx h0]; simp only [ByteArray.size_append]; omega
    · have : k = 0 := by omega
      subst this
      rw [fm_first hx]; simp only [ByteArray.size_append]; omega
  cases hd : (fmT xs (k + 1)).data.toList with
  | cons a l => rfl
  | nil =>
    have h9 : (fmT xs (k + 1)).data.toList.length = 0 := by rw [hd]; rfl
    have h8 : (fmT xs (k + 1)).data.toList.length = (fmT xs (k + 1)).size := by simp
    omega

theorem dash_any (s : ByteArray) (w : World) (b : Bool) (hb : s.toList.isEmpty = b) :
    Calls Tryd.prog 17 #[.string s] w fun e w' => e = .returned (.string (if b then ⟨#[45]⟩ else s)) ∧ w = w' := by
  have e1 : (s.toList == (⟨#[]⟩ : ByteArray).toList) = b := by
    rw [← hb, tl_data, tl_data]
    cases s.data.toList <;> rfl
  cases b with
  | true =>
    go_enter Tryd.func17, Tryd.ntmps17
    go_wp2_with fail
    go_ret
    exact ⟨rfl, rfl⟩
  | false =>
    go_enter Tryd.func17, Tryd.ntmps17
    go_wp2_with fail
    go_ret
    exact ⟨rfl, rfl⟩

theorem join_len {m : Nat} {sep : List UInt8} (hsep : sep.length = 1) : ∀ {l : List (List UInt8)}, (∀ x ∈ l, x.length ≤ m) → (Lib.join l sep).length ≤ l.length * (m + 1)
  | [], _ => by rw [Lib.join_nil]; simp
  | x :: r, h => by
    rw [Lib.join_cons, List.length_append, List.length_cons]
    have h1 := h x (by simp)
    have key : ∀ r : List (List UInt8), (∀ x ∈ r, x.length ≤ m) → (Lib.joinTail sep r).length ≤ r.length * (m + 1) := by
      intro r
      induction r with
      | nil => intro _; simp [Lib.joinTail]
      | cons y r ih =>
        intro hr
        have h2 := hr y (by simp)
        have h3 := ih fun z hz => hr z (by simp [hz])
        have e : Lib.joinTail sep (y :: r) = (sep ++ y) ++ Lib.joinTail sep r := by simp [Lib.joinTail]
        rw [e, List.length_append, List.length_append, hsep, List.length_cons, Nat.add_mul]; omega
    have h2 := key r fun z hz => h z (by simp [hz])
    rw [Nat.add_mul]; omega


/-- The parts of the text of trays. -/
def prT (t : List Ltr) : ByteArray × ByteArray := (label t, num t.length)
def prs (ts : List (List Ltr)) : List (ByteArray × ByteArray) := ts.map prT
theorem prs_len (ts : List (List Ltr)) : (prs ts).length = ts.length := by simp [prs]
theorem prs_get {ts : List (List Ltr)} {k : Nat} {t : List Ltr} (h : ts[k]? = some t) : (prs ts)[k]? = some (label t, num t.length) := by simp [prs, prT, h]
theorem label_size (t : List Ltr) : (label t).size ≤ 15 := by
  unfold label
  split
  · rename_i hb
    split
    · rename_i x y hx hy
      obtain ⟨_, h2, _⟩ := bv_parts hb
      have h3 := codeB_size (h2 x (List.mem_of_head? hx)).1
      have h4 := codeB_size (h2 y (List.mem_of_getLast? hy)).1
      have hd : dash.size = 1 := rfl
      rw [ByteArray.size_append, ByteArray.size_append]; omega
    · show (0 : Nat) ≤ 15; omega
  · show (0 : Nat) ≤ 15; omega
theorem prs_size (ts : List (List Ltr)) : ∀ x ∈ prs ts, x.1.size ≤ 15 ∧ x.2.size ≤ 2 := by
  intro x hx
  obtain ⟨t, _, rfl⟩ := List.mem_map.1 hx
  exact ⟨label_size t, (num_size t.length).2⟩
def fmtT (ts : List (List Ltr)) : ByteArray := if tv ts 20 then (if ts.length = 0 then ⟨#[45]⟩ else fmT (prs ts) (prs ts).length) else ⟨#[]⟩
theorem fmtT_no {ts : List (List Ltr)} (h : tv ts 20 = false) : fmtT ts = ⟨#[]⟩ := by simp [fmtT, h]
theorem fmtT_nil {ts : List (List Ltr)} (h : tv ts 20 = true) (h0 : ts.length = 0) : fmtT ts = ⟨#[45]⟩ := by simp [fmtT, h, h0]
theorem fmtT_yes {ts : List (List Ltr)} (h : tv ts 20 = true) (h0 : 0 < ts.length) : fmtT ts = fmT (prs ts) (prs ts).length := by rw [fmtT, h, if_pos rfl, if_neg (by omega)]
end Go.Proofs.YtfhnjpjlpddpmaaDoor
