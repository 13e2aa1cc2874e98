/-
  No cell of these rows narrows 'for every input' (looked for: loops, veiled, ifaces, maps, wideKeys, modest, calm, conditions, laid).
  DERIVED. THE GIVEN ROWS OF THIS SEAT. 15 by the template 'for every input the law returns true; each argument reads behind the call as it read before'; 0 by the template 'total and deterministic' (their statements: YtjekhmkkkmphmaaTotals.lean).
  GIVEN WITH THE SEED: the statements are not yours to turn. If you find one false, say at which input.
  Laid BY PROGRAM, IN A SANDBOX (cutbox-rows.mjs): the forced cells as the released guide's own fill.sh prints them over the translation f714bb5f3536ca2a… (all of the seat's roots in one cut). By AI agents, Wed Nov 11 2026. No macro, syntax, notation, axiom, sorry.
-/
import Derived.Test.YtjekhmkkkmphmaaChecked
import GoSem.Claim
import GoSem.ClaimJoined
import GoSem.ClaimMapViews
import Derived.JoinedTies
import Derived.KernelRfl
namespace Go.Proofs.Ytjekhmkkkmphmaa
/- THE CELL 'sum', in the pinned program and in every row, IS THE sha256 OF THE DUMP (.gsa) THAT YtjekhmkkkmphmaaProg.lean LOADS. Nothing in Lean hashes anything: it is a label: what it is worth is what the hold of that sum in a sandbox is worth. -/
noncomputable def Try.pinned : Pinned := { name := "ytjekhmkkkmphmaa", sum := "f714bb5f3536ca2a90154f7315a6de766ebfc6f472f37862d9a2f2577d806708", checked := Try.checked }
namespace Rows
def none {H : Type} : Left H := { results := [], args := [] }

/-- 'laws.FnLeastTrays': WHATEVER THE INPUT: true; the input reads as it did. -/
def fnLeastTraysSpec : ChangeSpec := { name := "fnLeastTrays", fn := fun _ => fun
  | [d] => { results := [.lit (.bool true)], args := [d] }
  | _ => none }
def fnLeastTraysRow : OpenClaim := { program := "ytjekhmkkkmphmaa", sum := "f714bb5f3536ca2a90154f7315a6de766ebfc6f472f37862d9a2f2577d806708", func := "loop.example/sortingoffice/laws.FnLeastTrays", spec := "fnLeastTrays", apart := false }
def FnLeastTraysSaid : Prop := fnLeastTraysRow.holds Try.pinned (OpenSpec.ofChange fnLeastTraysSpec)

/-- ITS FALSE NEIGHBOUR: 'it returns false'. Refute it at one input. -/
def fnLeastTraysWrong : ChangeSpec := { name := "fnLeastTrays", fn := fun _ => fun
  | [d] => { results := [.lit (.bool false)], args := [d] }
  | _ => none }
def FnLeastTraysWrongFalsely : Prop := fnLeastTraysRow.holds Try.pinned (OpenSpec.ofChange fnLeastTraysWrong)

/-- 'laws.FnExactLabelOf': WHATEVER THE INPUT: true; the input reads as it did. -/
def fnExactLabelOfSpec : ChangeSpec := { name := "fnExactLabelOf", fn := fun _ => fun
  | [d] => { results := [.lit (.bool true)], args := [d] }
  | _ => none }
def fnExactLabelOfRow : OpenClaim := { program := "ytjekhmkkkmphmaa", sum := "f714bb5f3536ca2a90154f7315a6de766ebfc6f472f37862d9a2f2577d806708", func := "loop.example/sortingoffice/laws.FnExactLabelOf", spec := "fnExactLabelOf", apart := false }
def FnExactLabelOfSaid : Prop := fnExactLabelOfRow.holds Try.pinned (OpenSpec.ofChange fnExactLabelOfSpec)

/-- ITS FALSE NEIGHBOUR: 'it returns false'. Refute it at one input. -/
def fnExactLabelOfWrong : ChangeSpec := { name := "fnExactLabelOf", fn := fun _ => fun
  | [d] => { results := [.lit (.bool false)], args := [d] }
  | _ => none }
def FnExactLabelOfWrongFalsely : Prop := fnExactLabelOfRow.holds Try.pinned (OpenSpec.ofChange fnExactLabelOfWrong)

/-- 'laws.FnLabel': WHATEVER THE INPUT: true; the input reads as it did. -/
def fnLabelSpec : ChangeSpec := { name := "fnLabel", fn := fun _ => fun
  | [d] => { results := [.lit (.bool true)], args := [d] }
  | _ => none }
def fnLabelRow : OpenClaim := { program := "ytjekhmkkkmphmaa", sum := "f714bb5f3536ca2a90154f7315a6de766ebfc6f472f37862d9a2f2577d806708", func := "loop.example/sortingoffice/laws.FnLabel", spec := "fnLabel", recurses := true, apart := false }
def FnLabelSaid : Prop := fnLabelRow.holds Try.pinned (OpenSpec.ofChange fnLabelSpec)

/-- ITS FALSE NEIGHBOUR: 'it returns false'. Refute it at one input. -/
def fnLabelWrong : ChangeSpec := { name := "fnLabel", fn := fun _ => fun
  | [d] => { results := [.lit (.bool false)], args := [d] }
  | _ => none }
def FnLabelWrongFalsely : Prop := fnLabelRow.holds Try.pinned (OpenSpec.ofChange fnLabelWrong)

/-- 'laws.FnExactTraysValid': WHATEVER THE INPUT: true; the input reads as it did. -/
def fnExactTraysValidSpec : ChangeSpec := { name := "fnExactTraysValid", fn := fun _ => fun
  | [d1, d2] => { results := [.lit (.bool true)], args := [d1, d2] }
  | _ => none }
def fnExactTraysValidRow : OpenClaim := { program := "ytjekhmkkkmphmaa", sum := "f714bb5f3536ca2a90154f7315a6de766ebfc6f472f37862d9a2f2577d806708", func := "loop.example/sortingoffice/laws.FnExactTraysValid", spec := "fnExactTraysValid", apart := false }
def FnExactTraysValidSaid : Prop := fnExactTraysValidRow.holds Try.pinned (OpenSpec.ofChange fnExactTraysValidSpec)

/-- ITS FALSE NEIGHBOUR: 'it returns false'. Refute it at one input. -/
def fnExactTraysValidWrong : ChangeSpec := { name := "fnExactTraysValid", fn := fun _ => fun
  | [d1, d2] => { results := [.lit (.bool false)], args := [d1, d2] }
  | _ => none }
def FnExactTraysValidWrongFalsely : Prop := fnExactTraysValidRow.holds Try.pinned (OpenSpec.ofChange fnExactTraysValidWrong)

/-- 'laws.FnExactFillByPrefix': WHATEVER THE INPUT: true; the input reads as it did. -/
def fnExactFillByPrefixSpec : ChangeSpec := { name := "fnExactFillByPrefix", fn := fun _ => fun
  | [d1, d2, d3] => { results := [.lit (.bool true)], args := [d1, d2, d3] }
  | _ => none }
def fnExactFillByPrefixRow : OpenClaim := { program := "ytjekhmkkkmphmaa", sum := "f714bb5f3536ca2a90154f7315a6de766ebfc6f472f37862d9a2f2577d806708", func := "loop.example/sortingoffice/laws.FnExactFillByPrefix", spec := "fnExactFillByPrefix", apart := false }
def FnExactFillByPrefixSaid : Prop := fnExactFillByPrefixRow.holds Try.pinned (OpenSpec.ofChange fnExactFillByPrefixSpec)

/-- ITS FALSE NEIGHBOUR: 'it returns false'. Refute it at one input. -/
def fnExactFillByPrefixWrong : ChangeSpec := { name := "fnExactFillByPrefix", fn := fun _ => fun
  | [d1, d2, d3] => { results := [.lit (.bool false)], args := [d1, d2, d3] }
  | _ => none }
def FnExactFillByPrefixWrongFalsely : Prop := fnExactFillByPrefixRow.holds Try.pinned (OpenSpec.ofChange fnExactFillByPrefixWrong)

/-- 'laws.FnExactTrayOf': WHATEVER THE INPUT: true; the input reads as it did. -/
def fnExactTrayOfSpec : ChangeSpec := { name := "fnExactTrayOf", fn := fun _ => fun
  | [d1, d2] => { results := [.lit (.bool true)], args := [d1, d2] }
  | _ => none }
def fnExactTrayOfRow : OpenClaim := { program := "ytjekhmkkkmphmaa", sum := "f714bb5f3536ca2a90154f7315a6de766ebfc6f472f37862d9a2f2577d806708", func := "loop.example/sortingoffice/laws.FnExactTrayOf", spec := "fnExactTrayOf", apart := false }
def FnExactTrayOfSaid : Prop := fnExactTrayOfRow.holds Try.pinned (OpenSpec.ofChange fnExactTrayOfSpec)

/-- ITS FALSE NEIGHBOUR: 'it returns false'. Refute it at one input. -/
def fnExactTrayOfWrong : ChangeSpec := { name := "fnExactTrayOf", fn := fun _ => fun
  | [d1, d2] => { results := [.lit (.bool false)], args := [d1, d2] }
  | _ => none }
def FnExactTrayOfWrongFalsely : Prop := fnExactTrayOfRow.holds Try.pinned (OpenSpec.ofChange fnExactTrayOfWrong)

/-- 'laws.FnExactFillTrays': WHATEVER THE INPUT: true; the input reads as it did. -/
def fnExactFillTraysSpec : ChangeSpec := { name := "fnExactFillTrays", fn := fun _ => fun
  | [d1, d2] => { results := [.lit (.bool true)], args := [d1, d2] }
  | _ => none }
def fnExactFillTraysRow : OpenClaim := { program := "ytjekhmkkkmphmaa", sum := "f714bb5f3536ca2a90154f7315a6de766ebfc6f472f37862d9a2f2577d806708", func := "loop.example/sortingoffice/laws.FnExactFillTrays", spec := "fnExactFillTrays", apart := false }
def FnExactFillTraysSaid : Prop := fnExactFillTraysRow.holds Try.pinned (OpenSpec.ofChange fnExactFillTraysSpec)

/-- ITS FALSE NEIGHBOUR: 'it returns false'. Refute it at one input. -/
def fnExactFillTraysWrong : ChangeSpec := { name := "fnExactFillTrays", fn := fun _ => fun
  | [d1, d2] => { results := [.lit (.bool false)], args := [d1, d2] }
  | _ => none }
def FnExactFillTraysWrongFalsely : Prop := fnExactFillTraysRow.holds Try.pinned (OpenSpec.ofChange fnExactFillTraysWrong)

/-- 'laws.FnExactEmptyTrays': WHATEVER THE INPUT: true; the input reads as it did. -/
def fnExactEmptyTraysSpec : ChangeSpec := { name := "fnExactEmptyTrays", fn := fun _ => fun
  | [d] => { results := [.lit (.bool true)], args := [d] }
  | _ => none }
def fnExactEmptyTraysRow : OpenClaim := { program := "ytjekhmkkkmphmaa", sum := "f714bb5f3536ca2a90154f7315a6de766ebfc6f472f37862d9a2f2577d806708", func := "loop.example/sortingoffice/laws.FnExactEmptyTrays", spec := "fnExactEmptyTrays", apart := false }
def FnExactEmptyTraysSaid : Prop := fnExactEmptyTraysRow.holds Try.pinned (OpenSpec.ofChange fnExactEmptyTraysSpec)

/-- ITS FALSE NEIGHBOUR: 'it returns false'. Refute it at one input. -/
def fnExactEmptyTraysWrong : ChangeSpec := { name := "fnExactEmptyTrays", fn := fun _ => fun
  | [d] => { results := [.lit (.bool false)], args := [d] }
  | _ => none }
def FnExactEmptyTraysWrongFalsely : Prop := fnExactEmptyTraysRow.holds Try.pinned (OpenSpec.ofChange fnExactEmptyTraysWrong)

/-- 'laws.FnEmptyTrays': WHATEVER THE INPUT: true; the input reads as it did. -/
def fnEmptyTraysSpec : ChangeSpec := { name := "fnEmptyTrays", fn := fun _ => fun
  | [d] => { results := [.lit (.bool true)], args := [d] }
  | _ => none }
def fnEmptyTraysRow : OpenClaim := { program := "ytjekhmkkkmphmaa", sum := "f714bb5f3536ca2a90154f7315a6de766ebfc6f472f37862d9a2f2577d806708", func := "loop.example/sortingoffice/laws.FnEmptyTrays", spec := "fnEmptyTrays", recurses := true, apart := false }
def FnEmptyTraysSaid : Prop := fnEmptyTraysRow.holds Try.pinned (OpenSpec.ofChange fnEmptyTraysSpec)

/-- ITS FALSE NEIGHBOUR: 'it returns false'. Refute it at one input. -/
def fnEmptyTraysWrong : ChangeSpec := { name := "fnEmptyTrays", fn := fun _ => fun
  | [d] => { results := [.lit (.bool false)], args := [d] }
  | _ => none }
def FnEmptyTraysWrongFalsely : Prop := fnEmptyTraysRow.holds Try.pinned (OpenSpec.ofChange fnEmptyTraysWrong)

/-- 'laws.FnFill': WHATEVER THE INPUT: true; the input reads as it did. -/
def fnFillSpec : ChangeSpec := { name := "fnFill", fn := fun _ => fun
  | [d] => { results := [.lit (.bool true)], args := [d] }
  | _ => none }
def fnFillRow : OpenClaim := { program := "ytjekhmkkkmphmaa", sum := "f714bb5f3536ca2a90154f7315a6de766ebfc6f472f37862d9a2f2577d806708", func := "loop.example/sortingoffice/laws.FnFill", spec := "fnFill", recurses := true, apart := false }
def FnFillSaid : Prop := fnFillRow.holds Try.pinned (OpenSpec.ofChange fnFillSpec)

/-- ITS FALSE NEIGHBOUR: 'it returns false'. Refute it at one input. -/
def fnFillWrong : ChangeSpec := { name := "fnFill", fn := fun _ => fun
  | [d] => { results := [.lit (.bool false)], args := [d] }
  | _ => none }
def FnFillWrongFalsely : Prop := fnFillRow.holds Try.pinned (OpenSpec.ofChange fnFillWrong)

/-- 'laws.FnTrayOf': WHATEVER THE INPUT: true; the input reads as it did. -/
def fnTrayOfSpec : ChangeSpec := { name := "fnTrayOf", fn := fun _ => fun
  | [d] => { results := [.lit (.bool true)], args := [d] }
  | _ => none }
def fnTrayOfRow : OpenClaim := { program := "ytjekhmkkkmphmaa", sum := "f714bb5f3536ca2a90154f7315a6de766ebfc6f472f37862d9a2f2577d806708", func := "loop.example/sortingoffice/laws.FnTrayOf", spec := "fnTrayOf", recurses := true, apart := false }
def FnTrayOfSaid : Prop := fnTrayOfRow.holds Try.pinned (OpenSpec.ofChange fnTrayOfSpec)

/-- ITS FALSE NEIGHBOUR: 'it returns false'. Refute it at one input. -/
def fnTrayOfWrong : ChangeSpec := { name := "fnTrayOf", fn := fun _ => fun
  | [d] => { results := [.lit (.bool false)], args := [d] }
  | _ => none }
def FnTrayOfWrongFalsely : Prop := fnTrayOfRow.holds Try.pinned (OpenSpec.ofChange fnTrayOfWrong)

/-- 'laws.FnExactRepackTrays': WHATEVER THE INPUT: true; the input reads as it did. -/
def fnExactRepackTraysSpec : ChangeSpec := { name := "fnExactRepackTrays", fn := fun _ => fun
  | [d1, d2] => { results := [.lit (.bool true)], args := [d1, d2] }
  | _ => none }
def fnExactRepackTraysRow : OpenClaim := { program := "ytjekhmkkkmphmaa", sum := "f714bb5f3536ca2a90154f7315a6de766ebfc6f472f37862d9a2f2577d806708", func := "loop.example/sortingoffice/laws.FnExactRepackTrays", spec := "fnExactRepackTrays", apart := false }
def FnExactRepackTraysSaid : Prop := fnExactRepackTraysRow.holds Try.pinned (OpenSpec.ofChange fnExactRepackTraysSpec)

/-- ITS FALSE NEIGHBOUR: 'it returns false'. Refute it at one input. -/
def fnExactRepackTraysWrong : ChangeSpec := { name := "fnExactRepackTrays", fn := fun _ => fun
  | [d1, d2] => { results := [.lit (.bool false)], args := [d1, d2] }
  | _ => none }
def FnExactRepackTraysWrongFalsely : Prop := fnExactRepackTraysRow.holds Try.pinned (OpenSpec.ofChange fnExactRepackTraysWrong)

/-- 'laws.FnFillByPrefix': WHATEVER THE INPUT: true; the input reads as it did. -/
def fnFillByPrefixSpec : ChangeSpec := { name := "fnFillByPrefix", fn := fun _ => fun
  | [d] => { results := [.lit (.bool true)], args := [d] }
  | _ => none }
def fnFillByPrefixRow : OpenClaim := { program := "ytjekhmkkkmphmaa", sum := "f714bb5f3536ca2a90154f7315a6de766ebfc6f472f37862d9a2f2577d806708", func := "loop.example/sortingoffice/laws.FnFillByPrefix", spec := "fnFillByPrefix", recurses := true, apart := false }
def FnFillByPrefixSaid : Prop := fnFillByPrefixRow.holds Try.pinned (OpenSpec.ofChange fnFillByPrefixSpec)

/-- ITS FALSE NEIGHBOUR: 'it returns false'. Refute it at one input. -/
def fnFillByPrefixWrong : ChangeSpec := { name := "fnFillByPrefix", fn := fun _ => fun
  | [d] => { results := [.lit (.bool false)], args := [d] }
  | _ => none }
def FnFillByPrefixWrongFalsely : Prop := fnFillByPrefixRow.holds Try.pinned (OpenSpec.ofChange fnFillByPrefixWrong)

/-- 'laws.FnRepack': WHATEVER THE INPUT: true; the input reads as it did. -/
def fnRepackSpec : ChangeSpec := { name := "fnRepack", fn := fun _ => fun
  | [d] => { results := [.lit (.bool true)], args := [d] }
  | _ => none }
def fnRepackRow : OpenClaim := { program := "ytjekhmkkkmphmaa", sum := "f714bb5f3536ca2a90154f7315a6de766ebfc6f472f37862d9a2f2577d806708", func := "loop.example/sortingoffice/laws.FnRepack", spec := "fnRepack", recurses := true, apart := false }
def FnRepackSaid : Prop := fnRepackRow.holds Try.pinned (OpenSpec.ofChange fnRepackSpec)

/-- ITS FALSE NEIGHBOUR: 'it returns false'. Refute it at one input. -/
def fnRepackWrong : ChangeSpec := { name := "fnRepack", fn := fun _ => fun
  | [d] => { results := [.lit (.bool false)], args := [d] }
  | _ => none }
def FnRepackWrongFalsely : Prop := fnRepackRow.holds Try.pinned (OpenSpec.ofChange fnRepackWrong)

/-- 'laws.FnPrefixTrays': WHATEVER THE INPUT: true; the input reads as it did. -/
def fnPrefixTraysSpec : ChangeSpec := { name := "fnPrefixTrays", fn := fun _ => fun
  | [d] => { results := [.lit (.bool true)], args := [d] }
  | _ => none }
def fnPrefixTraysRow : OpenClaim := { program := "ytjekhmkkkmphmaa", sum := "f714bb5f3536ca2a90154f7315a6de766ebfc6f472f37862d9a2f2577d806708", func := "loop.example/sortingoffice/laws.FnPrefixTrays", spec := "fnPrefixTrays", recurses := true, apart := false }
def FnPrefixTraysSaid : Prop := fnPrefixTraysRow.holds Try.pinned (OpenSpec.ofChange fnPrefixTraysSpec)

/-- ITS FALSE NEIGHBOUR: 'it returns false'. Refute it at one input. -/
def fnPrefixTraysWrong : ChangeSpec := { name := "fnPrefixTrays", fn := fun _ => fun
  | [d] => { results := [.lit (.bool false)], args := [d] }
  | _ => none }
def FnPrefixTraysWrongFalsely : Prop := fnPrefixTraysRow.holds Try.pinned (OpenSpec.ofChange fnPrefixTraysWrong)

/- THE SECOND FORM. 'bulk': how many values and letters a reading holds, each counted each time it is reached (what is shared counts as often as it is met; a slice's spare places count too). A statement '..UptoSaid' is the law's where the arguments, and the package variables that the reading takes, are together of bulk at most 1048576: NARROWER than '..Said'. Prove '..Said' where nothing that the law and all that it calls make is longer than what came in: it says more and counts as full. Else prove '..UptoSaid'. A law counts once. -/
mutual
def uptoBulk {H : Type} : DataW H → Nat
  | .lit (.string bytes) => bytes.length + 1
  | .lit _ => 1
  | .nil => 1
  | .ptr d => uptoBulk d + 1
  | .slice elems spare => uptoBulkAll elems + uptoBulkAll spare + 1
  | .agg parts => uptoBulkAll parts + 1
  | .iface _ d => uptoBulk d + 1
  | .map entries => uptoBulkEntries entries + 1
  | .held _ => 1
def uptoBulkAll {H : Type} : List (DataW H) → Nat
  | [] => 0
  | d :: r => uptoBulk d + uptoBulkAll r
def uptoBulkEntries {H : Type} : List (Lit × DataW H) → Nat
  | [] => 0
  | x :: r => uptoBulkEntry x + uptoBulkEntries r
def uptoBulkEntry {H : Type} : Lit × DataW H → Nat
  | (.string bytes, d) => bytes.length + uptoBulk d + 1
  | (_, d) => uptoBulk d + 1
 end
def uptoSmall : (H : Type) → List (DataW H) → Bool := fun _ ds => decide (uptoBulkAll ds ≤ 1048576)
def OpenSpec.upto (s : _root_.Go.ChangeSpec) : _root_.Go.OpenSpec := { _root_.Go.OpenSpec.ofChange s with cond := some uptoSmall }

/-- 'laws.FnLeastTrays', WHERE WHAT IT READS IS OF BULK AT MOST 1048576: true; the input reads as it did. -/
def fnLeastTraysUptoRow : OpenClaim := { program := "ytjekhmkkkmphmaa", sum := "f714bb5f3536ca2a90154f7315a6de766ebfc6f472f37862d9a2f2577d806708", func := "loop.example/sortingoffice/laws.FnLeastTrays", spec := "fnLeastTrays", apart := false, narrowed := true }
def FnLeastTraysUptoSaid : Prop := fnLeastTraysUptoRow.holds Try.pinned (OpenSpec.upto fnLeastTraysSpec)

/-- 'laws.FnExactLabelOf', WHERE WHAT IT READS IS OF BULK AT MOST 1048576: true; the input reads as it did. -/
def fnExactLabelOfUptoRow : OpenClaim := { program := "ytjekhmkkkmphmaa", sum := "f714bb5f3536ca2a90154f7315a6de766ebfc6f472f37862d9a2f2577d806708", func := "loop.example/sortingoffice/laws.FnExactLabelOf", spec := "fnExactLabelOf", apart := false, narrowed := true }
def FnExactLabelOfUptoSaid : Prop := fnExactLabelOfUptoRow.holds Try.pinned (OpenSpec.upto fnExactLabelOfSpec)

/-- 'laws.FnLabel', WHERE WHAT IT READS IS OF BULK AT MOST 1048576: true; the input reads as it did. -/
def fnLabelUptoRow : OpenClaim := { program := "ytjekhmkkkmphmaa", sum := "f714bb5f3536ca2a90154f7315a6de766ebfc6f472f37862d9a2f2577d806708", func := "loop.example/sortingoffice/laws.FnLabel", spec := "fnLabel", recurses := true, apart := false, narrowed := true }
def FnLabelUptoSaid : Prop := fnLabelUptoRow.holds Try.pinned (OpenSpec.upto fnLabelSpec)

/-- 'laws.FnExactTraysValid', WHERE WHAT IT READS IS OF BULK AT MOST 1048576: true; the input reads as it did. -/
def fnExactTraysValidUptoRow : OpenClaim := { program := "ytjekhmkkkmphmaa", sum := "f714bb5f3536ca2a90154f7315a6de766ebfc6f472f37862d9a2f2577d806708", func := "loop.example/sortingoffice/laws.FnExactTraysValid", spec := "fnExactTraysValid", apart := false, narrowed := true }
def FnExactTraysValidUptoSaid : Prop := fnExactTraysValidUptoRow.holds Try.pinned (OpenSpec.upto fnExactTraysValidSpec)

/-- 'laws.FnExactFillByPrefix', WHERE WHAT IT READS IS OF BULK AT MOST 1048576: true; the input reads as it did. -/
def fnExactFillByPrefixUptoRow : OpenClaim := { program := "ytjekhmkkkmphmaa", sum := "f714bb5f3536ca2a90154f7315a6de766ebfc6f472f37862d9a2f2577d806708", func := "loop.example/sortingoffice/laws.FnExactFillByPrefix", spec := "fnExactFillByPrefix", apart := false, narrowed := true }
def FnExactFillByPrefixUptoSaid : Prop := fnExactFillByPrefixUptoRow.holds Try.pinned (OpenSpec.upto fnExactFillByPrefixSpec)

/-- 'laws.FnExactTrayOf', WHERE WHAT IT READS IS OF BULK AT MOST 1048576: true; the input reads as it did. -/
def fnExactTrayOfUptoRow : OpenClaim := { program := "ytjekhmkkkmphmaa", sum := "f714bb5f3536ca2a90154f7315a6de766ebfc6f472f37862d9a2f2577d806708", func := "loop.example/sortingoffice/laws.FnExactTrayOf", spec := "fnExactTrayOf", apart := false, narrowed := true }
def FnExactTrayOfUptoSaid : Prop := fnExactTrayOfUptoRow.holds Try.pinned (OpenSpec.upto fnExactTrayOfSpec)

/-- 'laws.FnExactFillTrays', WHERE WHAT IT READS IS OF BULK AT MOST 1048576: true; the input reads as it did. -/
def fnExactFillTraysUptoRow : OpenClaim := { program := "ytjekhmkkkmphmaa", sum := "f714bb5f3536ca2a90154f7315a6de766ebfc6f472f37862d9a2f2577d806708", func := "loop.example/sortingoffice/laws.FnExactFillTrays", spec := "fnExactFillTrays", apart := false, narrowed := true }
def FnExactFillTraysUptoSaid : Prop := fnExactFillTraysUptoRow.holds Try.pinned (OpenSpec.upto fnExactFillTraysSpec)

/-- 'laws.FnExactEmptyTrays', WHERE WHAT IT READS IS OF BULK AT MOST 1048576: true; the input reads as it did. -/
def fnExactEmptyTraysUptoRow : OpenClaim := { program := "ytjekhmkkkmphmaa", sum := "f714bb5f3536ca2a90154f7315a6de766ebfc6f472f37862d9a2f2577d806708", func := "loop.example/sortingoffice/laws.FnExactEmptyTrays", spec := "fnExactEmptyTrays", apart := false, narrowed := true }
def FnExactEmptyTraysUptoSaid : Prop := fnExactEmptyTraysUptoRow.holds Try.pinned (OpenSpec.upto fnExactEmptyTraysSpec)

/-- 'laws.FnEmptyTrays', WHERE WHAT IT READS IS OF BULK AT MOST 1048576: true; the input reads as it did. -/
def fnEmptyTraysUptoRow : OpenClaim := { program := "ytjekhmkkkmphmaa", sum := "f714bb5f3536ca2a90154f7315a6de766ebfc6f472f37862d9a2f2577d806708", func := "loop.example/sortingoffice/laws.FnEmptyTrays", spec := "fnEmptyTrays", recurses := true, apart := false, narrowed := true }
def FnEmptyTraysUptoSaid : Prop := fnEmptyTraysUptoRow.holds Try.pinned (OpenSpec.upto fnEmptyTraysSpec)

/-- 'laws.FnFill', WHERE WHAT IT READS IS OF BULK AT MOST 1048576: true; the input reads as it did. -/
def fnFillUptoRow : OpenClaim := { program := "ytjekhmkkkmphmaa", sum := "f714bb5f3536ca2a90154f7315a6de766ebfc6f472f37862d9a2f2577d806708", func := "loop.example/sortingoffice/laws.FnFill", spec := "fnFill", recurses := true, apart := false, narrowed := true }
def FnFillUptoSaid : Prop := fnFillUptoRow.holds Try.pinned (OpenSpec.upto fnFillSpec)

/-- 'laws.FnTrayOf', WHERE WHAT IT READS IS OF BULK AT MOST 1048576: true; the input reads as it did. -/
def fnTrayOfUptoRow : OpenClaim := { program := "ytjekhmkkkmphmaa", sum := "f714bb5f3536ca2a90154f7315a6de766ebfc6f472f37862d9a2f2577d806708", func := "loop.example/sortingoffice/laws.FnTrayOf", spec := "fnTrayOf", recurses := true, apart := false, narrowed := true }
def FnTrayOfUptoSaid : Prop := fnTrayOfUptoRow.holds Try.pinned (OpenSpec.upto fnTrayOfSpec)

/-- 'laws.FnExactRepackTrays', WHERE WHAT IT READS IS OF BULK AT MOST 1048576: true; the input reads as it did. -/
def fnExactRepackTraysUptoRow : OpenClaim := { program := "ytjekhmkkkmphmaa", sum := "f714bb5f3536ca2a90154f7315a6de766ebfc6f472f37862d9a2f2577d806708", func := "loop.example/sortingoffice/laws.FnExactRepackTrays", spec := "fnExactRepackTrays", apart := false, narrowed := true }
def FnExactRepackTraysUptoSaid : Prop := fnExactRepackTraysUptoRow.holds Try.pinned (OpenSpec.upto fnExactRepackTraysSpec)

/-- 'laws.FnFillByPrefix', WHERE WHAT IT READS IS OF BULK AT MOST 1048576: true; the input reads as it did. -/
def fnFillByPrefixUptoRow : OpenClaim := { program := "ytjekhmkkkmphmaa", sum := "f714bb5f3536ca2a90154f7315a6de766ebfc6f472f37862d9a2f2577d806708", func := "loop.example/sortingoffice/laws.FnFillByPrefix", spec := "fnFillByPrefix", recurses := true, apart := false, narrowed := true }
def FnFillByPrefixUptoSaid : Prop := fnFillByPrefixUptoRow.holds Try.pinned (OpenSpec.upto fnFillByPrefixSpec)

/-- 'laws.FnRepack', WHERE WHAT IT READS IS OF BULK AT MOST 1048576: true; the input reads as it did. -/
def fnRepackUptoRow : OpenClaim := { program := "ytjekhmkkkmphmaa", sum := "f714bb5f3536ca2a90154f7315a6de766ebfc6f472f37862d9a2f2577d806708", func := "loop.example/sortingoffice/laws.FnRepack", spec := "fnRepack", recurses := true, apart := false, narrowed := true }
def FnRepackUptoSaid : Prop := fnRepackUptoRow.holds Try.pinned (OpenSpec.upto fnRepackSpec)

/-- 'laws.FnPrefixTrays', WHERE WHAT IT READS IS OF BULK AT MOST 1048576: true; the input reads as it did. -/
def fnPrefixTraysUptoRow : OpenClaim := { program := "ytjekhmkkkmphmaa", sum := "f714bb5f3536ca2a90154f7315a6de766ebfc6f472f37862d9a2f2577d806708", func := "loop.example/sortingoffice/laws.FnPrefixTrays", spec := "fnPrefixTrays", recurses := true, apart := false, narrowed := true }
def FnPrefixTraysUptoSaid : Prop := fnPrefixTraysUptoRow.holds Try.pinned (OpenSpec.upto fnPrefixTraysSpec)

end Rows
end Go.Proofs.Ytjekhmkkkmphmaa
