
/- Plain laws of rules as the given laws ask them: cuts of a code, what is looked up, what is added and removed. No program in sight. -/
import Derived.Test.YthmngaioimohaaaNtMath4
namespace Go.Proofs.Ythmngaioimohaaa
open Go.RowKit
set_option linter.unusedVariables false

theorem dl_cut (c : ByteArray) (n : Nat) : dl (c.extract 0 n) = (dl c).take n := by
  simp [dl, ByteArray.data_extract, Array.toList_extract, List.extract]
theorem begins_is {c p : ByteArray} (h : begins c p = true) : c.extract 0 p.size = p := by
  apply dl_inj
  rw [dl_cut]
  have h1 := begins_true.1 h
  rw [List.prefix_iff_eq_take, dl_length] at h1
  exact h1.symm
theorem cut_begins {c p : ByteArray} {n : Nat} (h : p = c.extract 0 n) : begins c p = true := by
  subst h
  refine begins_true.2 ?_
  rw [dl_cut]
  exact List.take_prefix _ _
theorem cut_size {c : ByteArray} {n : Nat} (h : n ≤ c.size) : (c.extract 0 n).size = n := by
  rw [ByteArray.size_extract]; omega
/-- No rule has one of the beginnings of the code from size n on. -/
def NoneFrom (rs : List Rul) (c : ByteArray) (n : Nat) : Prop := ∀ m, n ≤ m → m ≤ c.size → ∀ q ∈ rs, q.1 ≠ c.extract 0 m
theorem noneFrom_start (rs : List Rul) (c : ByteArray) : NoneFrom rs c (c.size + 1) := fun m h1 h2 => by omega
theorem noneFrom_step {rs : List Rul} {c : ByteArray} {n : Nat} (h : NoneFrom rs c (n + 1)) (h2 : ∀ j, j < rs.length → ∀ q, rs[j]? = some q → q.1 ≠ c.extract 0 n) : NoneFrom rs c n := fun m h1 h3 q hq => by
  rcases Nat.lt_or_ge n m with h4 | h4
  · exact h m h4 h3 q hq
  · have : m = n := by omega
    subst this
    obtain ⟨j, hj⟩ := List.getElem?_of_mem hq
    exact h2 j (List.getElem?_eq_some_iff.1 hj).1 q hj
theorem look_at {rs : List Rul} {c : ByteArray} {n i : Nat} {r : Rul} (hv : rv rs = true) (hn : n ≤ c.size) (hno : NoneFrom rs c (n + 1)) (hi : rs[i]? = some r) (he : r.1 = c.extract 0 n) : nextR rs c = some r.2 := by
  have hm := List.mem_of_getElem? hi
  have hb : bestR rs c = some r := by
    refine bestR_eq (fun a ha b hb he => (rv_parts hv).uniq ha hb he) hm (cut_begins he) fun q hq hqb => ?_
    have hle := begins_le hqb
    rcases Nat.lt_or_ge r.1.size q.1.size with h1 | h1
    · exfalso
      have : r.1.size = n := by rw [he, cut_size hn]
      exact hno q.1.size (by omega) hle q hq (begins_is hqb).symm
    · exact h1
  rw [nextR, hb]; rfl
theorem look_none {rs : List Rul} {c : ByteArray} (h : NoneFrom rs c 0) : nextR rs c = none := by
  have hb : bestR rs c = none := bestR_none.2 fun q hq => by
    cases hqb : begins c q.1 with
    | false => rfl
    | true => exact absurd (begins_is hqb).symm (h _ (Nat.zero_le _) (begins_le hqb) q hq)
  rw [nextR, hb]; rfl

/-- Where a code is sent, as a string; empty: nowhere. -/
def orE (o : Option ByteArray) : ByteArray := match o with | some s => s | none => ⟨#[]⟩
def lookO (rs : List Rul) (c : ByteArray) : Option ByteArray := if rv rs && codeB c then nextR rs c else none
theorem look_eq {a b : List Rul} {s : ByteArray} (ha : rv a = true) (hb : rv b = true) (h : codeB s = true → nextR a s = nextR b s) : lookO a s = lookO b s := by
  unfold lookO
  cases hs : codeB s with
  | false => simp
  | true => simp [ha, hb, h hs]
theorem put_look {rs : List Rul} {p n s : ByteArray} (h1 : rv rs = true) (h2 : rv (putR rs p n) = true) (h : begins s p = false) : lookO (putR rs p n) s = lookO rs s := look_eq h2 h1 fun _ => put_next h
theorem shrink_look {rs : List Rul} (h : rv rs = true) (s : ByteArray) : lookO (shrink rs) s = lookO rs s := look_eq (shrink_rv h) h fun _ => shrink_next h s
theorem same_look {a b : List Rul} (ha : rv a = true) (hb : rv b = true) (h : sameR a b = true) (s : ByteArray) : lookO a s = lookO b s := look_eq ha hb fun hs => (sameR_iff ha hb).1 h s hs
theorem shrink_same {rs : List Rul} (h : rv rs = true) : sameR (shrink rs) rs = true := by rw [sameR_shrink h]; exact sameR_self h
theorem shrink_le {rs : List Rul} (h : rv rs = true) : (shrink rs).length ≤ rs.length := (shrink_sub h).length_le
/-- The last rule with a prefix tells the same as the only one. -/
def lastN (rs : List Rul) (p : ByteArray) : ByteArray := rs.foldl (fun n r => if r.1 = p then r.2 else n) emp
theorem lastN_snoc {rs : List Rul} {p : ByteArray} {k : Nat} {r : Rul} (h : rs[k]? = some r) : lastN (rs.take (k + 1)) p = if r.1 = p then r.2 else lastN (rs.take k) p := by
  rw [take_snoc h, lastN, List.foldl_append]; rfl
theorem lastN_no {p : ByteArray} : ∀ (rs : List Rul) (b : ByteArray), (∀ r ∈ rs, r.1 ≠ p) → rs.foldl (fun n r => if r.1 = p then r.2 else n) b = b
  | [], b, _ => rfl
  | r :: rs, b, h => by
    rw [List.foldl_cons, if_neg (h r (by simp))]
    exact lastN_no rs b fun q hq => h q (by simp [hq])
theorem lastN_eq {rs : List Rul} {p : ByteArray} {k : Nat} {r : Rul} (hv : rv rs = true) (hk : rs[k]? = some r) (he : r.1 = p) : lastN rs p = r.2 := by
  have hs := dropAt_split hk
  have hno := dropAt_not (rv_parts hv) hk
  rw [lastN, hs, List.foldl_append, List.foldl_cons, if_pos he]
  exact lastN_no _ _ fun q hq => by
    rw [← he]
    exact hno q (List.mem_append.2 (.inr hq))

end Go.Proofs.Ythmngaioimohaaa
