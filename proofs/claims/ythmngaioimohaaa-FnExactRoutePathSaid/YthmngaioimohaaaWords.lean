/- The words that the translation bears, and the three facts that are read off them. -/
import Derived.Test.YthmngaioimohaaaRows
import Derived.WalkKit
import Derived.ProofKit
import Derived.OpenShut
namespace Go.Proofs.Ythmngaioimohaaa
set_option linter.unusedVariables false
set_option maxRecDepth 100000

theorem signs_word : ∀ (w r : List Char), (w.all fun c => decide (c ≠ Char.ofNat 32)) = true → wordsSigns (w ++ Char.ofNat 32 :: r) = w :: wordsSigns r
  | [], r, _ => rfl
  | c :: w, r, h => by
    rw [List.all_cons, Bool.and_eq_true, decide_eq_true_iff] at h
    have ih := signs_word w r h.2
    rw [List.cons_append]
    have key : ∀ l : List Char, wordsSigns (c :: l) = (match wordsSigns l with | w :: ws => (c :: w) :: ws | [] => [[c]]) := fun l => by
      conv => lhs; unfold wordsSigns
      split
      · rename_i e; cases e
      · rename_i e; injection e with e1 e2; exact absurd e1 h.1
      · rename_i e; injection e with e1 e2; subst e1 e2; rfl
    rw [key, ih]
def word0 : List Char := ([104, 97, 114, 110, 101, 115, 115] : List Nat).map Char.ofNat
def word1 : List Char := ([101, 101, 49, 100, 102, 56, 48, 100, 102, 102, 54, 51, 99, 49, 51, 102, 98, 49, 50, 97, 53, 56, 49, 53, 57, 100, 55, 97, 97, 53, 99, 54, 97, 97, 101, 49, 54, 102, 51, 100, 101, 98, 97, 49, 48, 56, 54, 101, 57, 98, 56, 99, 52, 49, 51, 100, 53, 102, 101, 48, 50, 52, 97, 98] : List Nat).map Char.ofNat
def word2 : List Char := ([99, 117, 116] : List Nat).map Char.ofNat
def wordR : List Char := ([97, 116, 32, 108, 111, 111, 112, 46, 101, 120, 97, 109, 112, 108, 101, 47, 115, 111, 114, 116, 105, 110, 103, 111, 102, 102, 105, 99, 101, 47, 108, 97, 119, 115, 46, 70, 110, 69, 120, 97, 99, 116, 78, 101, 116, 119, 111, 114, 107, 86, 97, 108, 105, 100, 32, 108, 111, 111, 112, 46, 101, 120, 97, 109, 112, 108, 101, 47, 115, 111, 114, 116, 105, 110, 103, 111, 102, 102, 105, 99, 101, 47, 108, 97, 119, 115, 46, 70, 110, 69, 120, 97, 99, 116, 70, 111, 114, 109, 97, 116, 78, 101, 116, 119, 111, 114, 107, 32, 108, 111, 111, 112, 46, 101, 120, 97, 109, 112, 108, 101, 47, 115, 111, 114, 116, 105, 110, 103, 111, 102, 102, 105, 99, 101, 47, 108, 97, 119, 115, 46, 70, 110, 69, 120, 97, 99, 116, 72, 111, 109, 101, 79, 102, 32, 108, 111, 111, 112, 46, 101, 120, 97, 109, 112, 108, 101, 47, 115, 111, 114, 116, 105, 110, 103, 111, 102, 102, 105, 99, 101, 47, 108, 97, 119, 115, 46, 70, 110, 69, 120, 97, 99, 116, 82, 111, 117, 116, 101, 80, 97, 116, 104] : List Nat).map Char.ofNat
theorem words_are : Try.pinned.checked.prog.initOrder = String.ofList (word0 ++ Char.ofNat 32 :: (word1 ++ Char.ofNat 32 :: (word2 ++ Char.ofNat 32 :: (wordR)))) := by kernel_rfl
theorem behind (r : List (List Char)) : behindMainWord (word0 :: (word1 :: (word2 :: (r)))) = word2 :: (r) := by
  have e : ((word0 == "harness".toList || word0 == "ownmain".toList) && isSumSigns word1) = true := by decide +kernel
  simp only [behindMainWord, e, if_true]
theorem behind_of {P : Program} (h : P.initOrder = String.ofList (word0 ++ Char.ofNat 32 :: (word1 ++ Char.ofNat 32 :: (word2 ++ Char.ofNat 32 :: (wordR))))) : behindMainWord (wordsSigns P.initOrder.toList) = word2 :: wordsSigns wordR := by
  rw [h, String.toList_ofList]
  rw [signs_word word0 _ (by decide +kernel)]
  rw [signs_word word1 _ (by decide +kernel)]
  rw [signs_word word2 _ (by decide +kernel)]
  rw [behind]
theorem make_cut {P : Program} {r : List (List Char)} (h : behindMainWord (wordsSigns P.initOrder.toList) = word2 :: r) : P.make = some .cut := by
  unfold Program.make
  rw [h]
  kernel_rfl
theorem final_cut {P : Program} {r : List (List Char)} (h : behindMainWord (wordsSigns P.initOrder.toList) = word2 :: r) : P.liftsFinal = false := by
  unfold Program.liftsFinal Program.headLifts
  rw [h]
  kernel_rfl
theorem strip_cut (r : List (List Char)) : stripLifts liftWords (word2 :: r) = ([], word2 :: r) := by kernel_rfl
theorem enter_cut {P : Program} {r : List (List Char)} (h : behindMainWord (wordsSigns P.initOrder.toList) = word2 :: r) (h1 : P.laysLater = false) (h2 : P.bearsReflect = false) (h3 : P.doorFits [] = true) : P.mayEnter = true := by
  unfold Program.mayEnter
  rw [h]
  simp only [strip_cut, h1, h2, h3]
  kernel_rfl
theorem may_enter : Try.pinned.checked.prog.mayEnter = true := enter_cut (behind_of words_are) (by kernel_rfl) (by kernel_rfl) (by kernel_rfl)
theorem lifts_final : Try.pinned.checked.prog.liftsFinal = false := final_cut (behind_of words_are)
theorem made_so : Try.pinned.checked.prog.make = some .cut := make_cut (behind_of words_are)
end Go.Proofs.Ythmngaioimohaaa
