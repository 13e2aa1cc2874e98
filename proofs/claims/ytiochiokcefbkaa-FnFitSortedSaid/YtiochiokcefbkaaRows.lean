/-
  No cell of these rows narrows 'for every input' (looked for: loops, veiled, ifaces, maps, wideKeys, modest, calm, conditions, laid).
  DERIVED. THE GIVEN ROWS OF THIS SEAT. 12 by the template 'for every input the law returns true; each argument reads behind the call as it read before'; 0 by the template 'total and deterministic' (their statements: YtiochiokcefbkaaTotals.lean).
  GIVEN WITH THE SEED: the statements are not yours to turn. If you find one false, say at which input.
  Laid BY PROGRAM, IN A SANDBOX (cutbox-rows.mjs): the forced cells as the released guide's own fill.sh prints them over the translation 1be531d279ea32cf… (all of the seat's roots in one cut). By AI agents, Wed Nov 11 2026. No macro, syntax, notation, axiom, sorry.
-/
import Derived.Test.YtiochiokcefbkaaChecked
import GoSem.Claim
import GoSem.ClaimJoined
import GoSem.ClaimMapViews
import Derived.JoinedTies
import Derived.KernelRfl
namespace Go.Proofs.Ytiochiokcefbkaa
/- THE CELL 'sum', in the pinned program and in every row, IS THE sha256 OF THE DUMP (.gsa) THAT YtiochiokcefbkaaProg.lean LOADS. Nothing in Lean hashes anything: it is a label: what it is worth is what the hold of that sum in a sandbox is worth. -/
noncomputable def Try.pinned : Pinned := { name := "ytiochiokcefbkaa", sum := "1be531d279ea32cf433396f1954aaae53db4a1432f2fc0bbc6d8e392919302ed", checked := Try.checked }
namespace Rows
def none {H : Type} : Left H := { results := [], args := [] }

/-- 'laws.FnExactWeightsValid': WHATEVER THE INPUT: true; the input reads as it did. -/
def fnExactWeightsValidSpec : ChangeSpec := { name := "fnExactWeightsValid", fn := fun _ => fun
  | [d1, d2] => { results := [.lit (.bool true)], args := [d1, d2] }
  | _ => none }
def fnExactWeightsValidRow : OpenClaim := { program := "ytiochiokcefbkaa", sum := "1be531d279ea32cf433396f1954aaae53db4a1432f2fc0bbc6d8e392919302ed", func := "loop.example/sortingoffice/laws.FnExactWeightsValid", spec := "fnExactWeightsValid", apart := false }
def FnExactWeightsValidSaid : Prop := fnExactWeightsValidRow.holds Try.pinned (OpenSpec.ofChange fnExactWeightsValidSpec)

/-- ITS FALSE NEIGHBOUR: 'it returns false'. Refute it at one input. -/
def fnExactWeightsValidWrong : ChangeSpec := { name := "fnExactWeightsValid", fn := fun _ => fun
  | [d1, d2] => { results := [.lit (.bool false)], args := [d1, d2] }
  | _ => none }
def FnExactWeightsValidWrongFalsely : Prop := fnExactWeightsValidRow.holds Try.pinned (OpenSpec.ofChange fnExactWeightsValidWrong)

/-- 'laws.FnExactTruckCount': WHATEVER THE INPUT: true; the input reads as it did. -/
def fnExactTruckCountSpec : ChangeSpec := { name := "fnExactTruckCount", fn := fun _ => fun
  | [d] => { results := [.lit (.bool true)], args := [d] }
  | _ => none }
def fnExactTruckCountRow : OpenClaim := { program := "ytiochiokcefbkaa", sum := "1be531d279ea32cf433396f1954aaae53db4a1432f2fc0bbc6d8e392919302ed", func := "loop.example/sortingoffice/laws.FnExactTruckCount", spec := "fnExactTruckCount", apart := false }
def FnExactTruckCountSaid : Prop := fnExactTruckCountRow.holds Try.pinned (OpenSpec.ofChange fnExactTruckCountSpec)

/-- ITS FALSE NEIGHBOUR: 'it returns false'. Refute it at one input. -/
def fnExactTruckCountWrong : ChangeSpec := { name := "fnExactTruckCount", fn := fun _ => fun
  | [d] => { results := [.lit (.bool false)], args := [d] }
  | _ => none }
def FnExactTruckCountWrongFalsely : Prop := fnExactTruckCountRow.holds Try.pinned (OpenSpec.ofChange fnExactTruckCountWrong)

/-- 'laws.FnExactLeastTrucks': WHATEVER THE INPUT: true; the input reads as it did. -/
def fnExactLeastTrucksSpec : ChangeSpec := { name := "fnExactLeastTrucks", fn := fun _ => fun
  | [d1, d2] => { results := [.lit (.bool true)], args := [d1, d2] }
  | _ => none }
def fnExactLeastTrucksRow : OpenClaim := { program := "ytiochiokcefbkaa", sum := "1be531d279ea32cf433396f1954aaae53db4a1432f2fc0bbc6d8e392919302ed", func := "loop.example/sortingoffice/laws.FnExactLeastTrucks", spec := "fnExactLeastTrucks", recurses := true, apart := false }
def FnExactLeastTrucksSaid : Prop := fnExactLeastTrucksRow.holds Try.pinned (OpenSpec.ofChange fnExactLeastTrucksSpec)

/-- ITS FALSE NEIGHBOUR: 'it returns false'. Refute it at one input. -/
def fnExactLeastTrucksWrong : ChangeSpec := { name := "fnExactLeastTrucks", fn := fun _ => fun
  | [d1, d2] => { results := [.lit (.bool false)], args := [d1, d2] }
  | _ => none }
def FnExactLeastTrucksWrongFalsely : Prop := fnExactLeastTrucksRow.holds Try.pinned (OpenSpec.ofChange fnExactLeastTrucksWrong)

/-- 'laws.FnExactFirstFit': WHATEVER THE INPUT: true; the input reads as it did. -/
def fnExactFirstFitSpec : ChangeSpec := { name := "fnExactFirstFit", fn := fun _ => fun
  | [d1, d2] => { results := [.lit (.bool true)], args := [d1, d2] }
  | _ => none }
def fnExactFirstFitRow : OpenClaim := { program := "ytiochiokcefbkaa", sum := "1be531d279ea32cf433396f1954aaae53db4a1432f2fc0bbc6d8e392919302ed", func := "loop.example/sortingoffice/laws.FnExactFirstFit", spec := "fnExactFirstFit", apart := false }
def FnExactFirstFitSaid : Prop := fnExactFirstFitRow.holds Try.pinned (OpenSpec.ofChange fnExactFirstFitSpec)

/-- ITS FALSE NEIGHBOUR: 'it returns false'. Refute it at one input. -/
def fnExactFirstFitWrong : ChangeSpec := { name := "fnExactFirstFit", fn := fun _ => fun
  | [d1, d2] => { results := [.lit (.bool false)], args := [d1, d2] }
  | _ => none }
def FnExactFirstFitWrongFalsely : Prop := fnExactFirstFitRow.holds Try.pinned (OpenSpec.ofChange fnExactFirstFitWrong)

/-- 'laws.FnExactTruckLoads': WHATEVER THE INPUT: true; the input reads as it did. -/
def fnExactTruckLoadsSpec : ChangeSpec := { name := "fnExactTruckLoads", fn := fun _ => fun
  | [d1, d2] => { results := [.lit (.bool true)], args := [d1, d2] }
  | _ => none }
def fnExactTruckLoadsRow : OpenClaim := { program := "ytiochiokcefbkaa", sum := "1be531d279ea32cf433396f1954aaae53db4a1432f2fc0bbc6d8e392919302ed", func := "loop.example/sortingoffice/laws.FnExactTruckLoads", spec := "fnExactTruckLoads", apart := false }
def FnExactTruckLoadsSaid : Prop := fnExactTruckLoadsRow.holds Try.pinned (OpenSpec.ofChange fnExactTruckLoadsSpec)

/-- ITS FALSE NEIGHBOUR: 'it returns false'. Refute it at one input. -/
def fnExactTruckLoadsWrong : ChangeSpec := { name := "fnExactTruckLoads", fn := fun _ => fun
  | [d1, d2] => { results := [.lit (.bool false)], args := [d1, d2] }
  | _ => none }
def FnExactTruckLoadsWrongFalsely : Prop := fnExactTruckLoadsRow.holds Try.pinned (OpenSpec.ofChange fnExactTruckLoadsWrong)

/-- 'laws.FnExactLoadingValid': WHATEVER THE INPUT: true; the input reads as it did. -/
def fnExactLoadingValidSpec : ChangeSpec := { name := "fnExactLoadingValid", fn := fun _ => fun
  | [d1, d2, d3] => { results := [.lit (.bool true)], args := [d1, d2, d3] }
  | _ => none }
def fnExactLoadingValidRow : OpenClaim := { program := "ytiochiokcefbkaa", sum := "1be531d279ea32cf433396f1954aaae53db4a1432f2fc0bbc6d8e392919302ed", func := "loop.example/sortingoffice/laws.FnExactLoadingValid", spec := "fnExactLoadingValid", apart := false }
def FnExactLoadingValidSaid : Prop := fnExactLoadingValidRow.holds Try.pinned (OpenSpec.ofChange fnExactLoadingValidSpec)

/-- ITS FALSE NEIGHBOUR: 'it returns false'. Refute it at one input. -/
def fnExactLoadingValidWrong : ChangeSpec := { name := "fnExactLoadingValid", fn := fun _ => fun
  | [d1, d2, d3] => { results := [.lit (.bool false)], args := [d1, d2, d3] }
  | _ => none }
def FnExactLoadingValidWrongFalsely : Prop := fnExactLoadingValidRow.holds Try.pinned (OpenSpec.ofChange fnExactLoadingValidWrong)

/-- 'laws.FnExactFitSorted': WHATEVER THE INPUT: true; the input reads as it did. -/
def fnExactFitSortedSpec : ChangeSpec := { name := "fnExactFitSorted", fn := fun _ => fun
  | [d1, d2] => { results := [.lit (.bool true)], args := [d1, d2] }
  | _ => none }
def fnExactFitSortedRow : OpenClaim := { program := "ytiochiokcefbkaa", sum := "1be531d279ea32cf433396f1954aaae53db4a1432f2fc0bbc6d8e392919302ed", func := "loop.example/sortingoffice/laws.FnExactFitSorted", spec := "fnExactFitSorted", unfollowed := true, recurses := true, apart := false }
def FnExactFitSortedSaid : Prop := fnExactFitSortedRow.holds Try.pinned (OpenSpec.ofChange fnExactFitSortedSpec)

/-- ITS FALSE NEIGHBOUR: 'it returns false'. Refute it at one input. -/
def fnExactFitSortedWrong : ChangeSpec := { name := "fnExactFitSorted", fn := fun _ => fun
  | [d1, d2] => { results := [.lit (.bool false)], args := [d1, d2] }
  | _ => none }
def FnExactFitSortedWrongFalsely : Prop := fnExactFitSortedRow.holds Try.pinned (OpenSpec.ofChange fnExactFitSortedWrong)

/-- 'laws.FnLeastTrucks': WHATEVER THE INPUT: true; the input reads as it did. -/
def fnLeastTrucksSpec : ChangeSpec := { name := "fnLeastTrucks", fn := fun _ => fun
  | [d] => { results := [.lit (.bool true)], args := [d] }
  | _ => none }
def fnLeastTrucksRow : OpenClaim := { program := "ytiochiokcefbkaa", sum := "1be531d279ea32cf433396f1954aaae53db4a1432f2fc0bbc6d8e392919302ed", func := "loop.example/sortingoffice/laws.FnLeastTrucks", spec := "fnLeastTrucks", recurses := true, apart := false }
def FnLeastTrucksSaid : Prop := fnLeastTrucksRow.holds Try.pinned (OpenSpec.ofChange fnLeastTrucksSpec)

/-- ITS FALSE NEIGHBOUR: 'it returns false'. Refute it at one input. -/
def fnLeastTrucksWrong : ChangeSpec := { name := "fnLeastTrucks", fn := fun _ => fun
  | [d] => { results := [.lit (.bool false)], args := [d] }
  | _ => none }
def FnLeastTrucksWrongFalsely : Prop := fnLeastTrucksRow.holds Try.pinned (OpenSpec.ofChange fnLeastTrucksWrong)

/-- 'laws.FnLoads': WHATEVER THE INPUT: true; the input reads as it did. -/
def fnLoadsSpec : ChangeSpec := { name := "fnLoads", fn := fun _ => fun
  | [d] => { results := [.lit (.bool true)], args := [d] }
  | _ => none }
def fnLoadsRow : OpenClaim := { program := "ytiochiokcefbkaa", sum := "1be531d279ea32cf433396f1954aaae53db4a1432f2fc0bbc6d8e392919302ed", func := "loop.example/sortingoffice/laws.FnLoads", spec := "fnLoads", apart := false }
def FnLoadsSaid : Prop := fnLoadsRow.holds Try.pinned (OpenSpec.ofChange fnLoadsSpec)

/-- ITS FALSE NEIGHBOUR: 'it returns false'. Refute it at one input. -/
def fnLoadsWrong : ChangeSpec := { name := "fnLoads", fn := fun _ => fun
  | [d] => { results := [.lit (.bool false)], args := [d] }
  | _ => none }
def FnLoadsWrongFalsely : Prop := fnLoadsRow.holds Try.pinned (OpenSpec.ofChange fnLoadsWrong)

/-- 'laws.FnFirstFit': WHATEVER THE INPUT: true; the input reads as it did. -/
def fnFirstFitSpec : ChangeSpec := { name := "fnFirstFit", fn := fun _ => fun
  | [d] => { results := [.lit (.bool true)], args := [d] }
  | _ => none }
def fnFirstFitRow : OpenClaim := { program := "ytiochiokcefbkaa", sum := "1be531d279ea32cf433396f1954aaae53db4a1432f2fc0bbc6d8e392919302ed", func := "loop.example/sortingoffice/laws.FnFirstFit", spec := "fnFirstFit", recurses := true, apart := false }
def FnFirstFitSaid : Prop := fnFirstFitRow.holds Try.pinned (OpenSpec.ofChange fnFirstFitSpec)

/-- ITS FALSE NEIGHBOUR: 'it returns false'. Refute it at one input. -/
def fnFirstFitWrong : ChangeSpec := { name := "fnFirstFit", fn := fun _ => fun
  | [d] => { results := [.lit (.bool false)], args := [d] }
  | _ => none }
def FnFirstFitWrongFalsely : Prop := fnFirstFitRow.holds Try.pinned (OpenSpec.ofChange fnFirstFitWrong)

/-- 'laws.FnLoading': WHATEVER THE INPUT: true; the input reads as it did. -/
def fnLoadingSpec : ChangeSpec := { name := "fnLoading", fn := fun _ => fun
  | [d] => { results := [.lit (.bool true)], args := [d] }
  | _ => none }
def fnLoadingRow : OpenClaim := { program := "ytiochiokcefbkaa", sum := "1be531d279ea32cf433396f1954aaae53db4a1432f2fc0bbc6d8e392919302ed", func := "loop.example/sortingoffice/laws.FnLoading", spec := "fnLoading", recurses := true, apart := false }
def FnLoadingSaid : Prop := fnLoadingRow.holds Try.pinned (OpenSpec.ofChange fnLoadingSpec)

/-- ITS FALSE NEIGHBOUR: 'it returns false'. Refute it at one input. -/
def fnLoadingWrong : ChangeSpec := { name := "fnLoading", fn := fun _ => fun
  | [d] => { results := [.lit (.bool false)], args := [d] }
  | _ => none }
def FnLoadingWrongFalsely : Prop := fnLoadingRow.holds Try.pinned (OpenSpec.ofChange fnLoadingWrong)

/-- 'laws.FnFitSorted': WHATEVER THE INPUT: true; the input reads as it did. -/
def fnFitSortedSpec : ChangeSpec := { name := "fnFitSorted", fn := fun _ => fun
  | [d] => { results := [.lit (.bool true)], args := [d] }
  | _ => none }
def fnFitSortedRow : OpenClaim := { program := "ytiochiokcefbkaa", sum := "1be531d279ea32cf433396f1954aaae53db4a1432f2fc0bbc6d8e392919302ed", func := "loop.example/sortingoffice/laws.FnFitSorted", spec := "fnFitSorted", unfollowed := true, recurses := true, apart := false }
def FnFitSortedSaid : Prop := fnFitSortedRow.holds Try.pinned (OpenSpec.ofChange fnFitSortedSpec)

/-- ITS FALSE NEIGHBOUR: 'it returns false'. Refute it at one input. -/
def fnFitSortedWrong : ChangeSpec := { name := "fnFitSorted", fn := fun _ => fun
  | [d] => { results := [.lit (.bool false)], args := [d] }
  | _ => none }
def FnFitSortedWrongFalsely : Prop := fnFitSortedRow.holds Try.pinned (OpenSpec.ofChange fnFitSortedWrong)

/- THE SECOND FORM. 'bulk': how many values and letters a reading holds, each counted each time it is reached (what is shared counts as often as it is met; a slice's spare places count too). A statement '..UptoSaid' is the law's where the arguments, and the package variables that the reading takes, are together of bulk at most 1048576: NARROWER than '..Said'. Prove '..Said' where nothing that the law and all that it calls make is longer than what came in: it says more and counts as full. Else prove '..UptoSaid'. A law counts once. -/
mutual
def uptoBulk {H : Type} : DataW H → Nat
  | .lit (.string bytes) => bytes.length + 1
  | .lit _ => 1
  | .nil => 1
  | .ptr d => uptoBulk d + 1
  | .slice elems spare => uptoBulkAll elems + uptoBulkAll spare + 1
  | .agg parts => uptoBulkAll parts + 1
  | .iface _ d => uptoBulk d + 1
  | .map entries => uptoBulkEntries entries + 1
  | .held _ => 1
def uptoBulkAll {H : Type} : List (DataW H) → Nat
  | [] => 0
  | d :: r => uptoBulk d + uptoBulkAll r
def uptoBulkEntries {H : Type} : List (Lit × DataW H) → Nat
  | [] => 0
  | x :: r => uptoBulkEntry x + uptoBulkEntries r
def uptoBulkEntry {H : Type} : Lit × DataW H → Nat
  | (.string bytes, d) => bytes.length + uptoBulk d + 1
  | (_, d) => uptoBulk d + 1
 end
def uptoSmall : (H : Type) → List (DataW H) → Bool := fun _ ds => decide (uptoBulkAll ds ≤ 1048576)
def OpenSpec.upto (s : _root_.Go.ChangeSpec) : _root_.Go.OpenSpec := { _root_.Go.OpenSpec.ofChange s with cond := some uptoSmall }

/-- 'laws.FnExactWeightsValid', WHERE WHAT IT READS IS OF BULK AT MOST 1048576: true; the input reads as it did. -/
def fnExactWeightsValidUptoRow : OpenClaim := { program := "ytiochiokcefbkaa", sum := "1be531d279ea32cf433396f1954aaae53db4a1432f2fc0bbc6d8e392919302ed", func := "loop.example/sortingoffice/laws.FnExactWeightsValid", spec := "fnExactWeightsValid", apart := false, narrowed := true }
def FnExactWeightsValidUptoSaid : Prop := fnExactWeightsValidUptoRow.holds Try.pinned (OpenSpec.upto fnExactWeightsValidSpec)

/-- 'laws.FnExactTruckCount', WHERE WHAT IT READS IS OF BULK AT MOST 1048576: true; the input reads as it did. -/
def fnExactTruckCountUptoRow : OpenClaim := { program := "ytiochiokcefbkaa", sum := "1be531d279ea32cf433396f1954aaae53db4a1432f2fc0bbc6d8e392919302ed", func := "loop.example/sortingoffice/laws.FnExactTruckCount", spec := "fnExactTruckCount", apart := false, narrowed := true }
def FnExactTruckCountUptoSaid : Prop := fnExactTruckCountUptoRow.holds Try.pinned (OpenSpec.upto fnExactTruckCountSpec)

/-- 'laws.FnExactLeastTrucks', WHERE WHAT IT READS IS OF BULK AT MOST 1048576: true; the input reads as it did. -/
def fnExactLeastTrucksUptoRow : OpenClaim := { program := "ytiochiokcefbkaa", sum := "1be531d279ea32cf433396f1954aaae53db4a1432f2fc0bbc6d8e392919302ed", func := "loop.example/sortingoffice/laws.FnExactLeastTrucks", spec := "fnExactLeastTrucks", recurses := true, apart := false, narrowed := true }
def FnExactLeastTrucksUptoSaid : Prop := fnExactLeastTrucksUptoRow.holds Try.pinned (OpenSpec.upto fnExactLeastTrucksSpec)

/-- 'laws.FnExactFirstFit', WHERE WHAT IT READS IS OF BULK AT MOST 1048576: true; the input reads as it did. -/
def fnExactFirstFitUptoRow : OpenClaim := { program := "ytiochiokcefbkaa", sum := "1be531d279ea32cf433396f1954aaae53db4a1432f2fc0bbc6d8e392919302ed", func := "loop.example/sortingoffice/laws.FnExactFirstFit", spec := "fnExactFirstFit", apart := false, narrowed := true }
def FnExactFirstFitUptoSaid : Prop := fnExactFirstFitUptoRow.holds Try.pinned (OpenSpec.upto fnExactFirstFitSpec)

/-- 'laws.FnExactTruckLoads', WHERE WHAT IT READS IS OF BULK AT MOST 1048576: true; the input reads as it did. -/
def fnExactTruckLoadsUptoRow : OpenClaim := { program := "ytiochiokcefbkaa", sum := "1be531d279ea32cf433396f1954aaae53db4a1432f2fc0bbc6d8e392919302ed", func := "loop.example/sortingoffice/laws.FnExactTruckLoads", spec := "fnExactTruckLoads", apart := false, narrowed := true }
def FnExactTruckLoadsUptoSaid : Prop := fnExactTruckLoadsUptoRow.holds Try.pinned (OpenSpec.upto fnExactTruckLoadsSpec)

/-- 'laws.FnExactLoadingValid', WHERE WHAT IT READS IS OF BULK AT MOST 1048576: true; the input reads as it did. -/
def fnExactLoadingValidUptoRow : OpenClaim := { program := "ytiochiokcefbkaa", sum := "1be531d279ea32cf433396f1954aaae53db4a1432f2fc0bbc6d8e392919302ed", func := "loop.example/sortingoffice/laws.FnExactLoadingValid", spec := "fnExactLoadingValid", apart := false, narrowed := true }
def FnExactLoadingValidUptoSaid : Prop := fnExactLoadingValidUptoRow.holds Try.pinned (OpenSpec.upto fnExactLoadingValidSpec)

/-- 'laws.FnExactFitSorted', WHERE WHAT IT READS IS OF BULK AT MOST 1048576: true; the input reads as it did. -/
def fnExactFitSortedUptoRow : OpenClaim := { program := "ytiochiokcefbkaa", sum := "1be531d279ea32cf433396f1954aaae53db4a1432f2fc0bbc6d8e392919302ed", func := "loop.example/sortingoffice/laws.FnExactFitSorted", spec := "fnExactFitSorted", unfollowed := true, recurses := true, apart := false, narrowed := true }
def FnExactFitSortedUptoSaid : Prop := fnExactFitSortedUptoRow.holds Try.pinned (OpenSpec.upto fnExactFitSortedSpec)

/-- 'laws.FnLeastTrucks', WHERE WHAT IT READS IS OF BULK AT MOST 1048576: true; the input reads as it did. -/
def fnLeastTrucksUptoRow : OpenClaim := { program := "ytiochiokcefbkaa", sum := "1be531d279ea32cf433396f1954aaae53db4a1432f2fc0bbc6d8e392919302ed", func := "loop.example/sortingoffice/laws.FnLeastTrucks", spec := "fnLeastTrucks", recurses := true, apart := false, narrowed := true }
def FnLeastTrucksUptoSaid : Prop := fnLeastTrucksUptoRow.holds Try.pinned (OpenSpec.upto fnLeastTrucksSpec)

/-- 'laws.FnLoads', WHERE WHAT IT READS IS OF BULK AT MOST 1048576: true; the input reads as it did. -/
def fnLoadsUptoRow : OpenClaim := { program := "ytiochiokcefbkaa", sum := "1be531d279ea32cf433396f1954aaae53db4a1432f2fc0bbc6d8e392919302ed", func := "loop.example/sortingoffice/laws.FnLoads", spec := "fnLoads", apart := false, narrowed := true }
def FnLoadsUptoSaid : Prop := fnLoadsUptoRow.holds Try.pinned (OpenSpec.upto fnLoadsSpec)

/-- 'laws.FnFirstFit', WHERE WHAT IT READS IS OF BULK AT MOST 1048576: true; the input reads as it did. -/
def fnFirstFitUptoRow : OpenClaim := { program := "ytiochiokcefbkaa", sum := "1be531d279ea32cf433396f1954aaae53db4a1432f2fc0bbc6d8e392919302ed", func := "loop.example/sortingoffice/laws.FnFirstFit", spec := "fnFirstFit", recurses := true, apart := false, narrowed := true }
def FnFirstFitUptoSaid : Prop := fnFirstFitUptoRow.holds Try.pinned (OpenSpec.upto fnFirstFitSpec)

/-- 'laws.FnLoading', WHERE WHAT IT READS IS OF BULK AT MOST 1048576: true; the input reads as it did. -/
def fnLoadingUptoRow : OpenClaim := { program := "ytiochiokcefbkaa", sum := "1be531d279ea32cf433396f1954aaae53db4a1432f2fc0bbc6d8e392919302ed", func := "loop.example/sortingoffice/laws.FnLoading", spec := "fnLoading", recurses := true, apart := false, narrowed := true }
def FnLoadingUptoSaid : Prop := fnLoadingUptoRow.holds Try.pinned (OpenSpec.upto fnLoadingSpec)

/-- 'laws.FnFitSorted', WHERE WHAT IT READS IS OF BULK AT MOST 1048576: true; the input reads as it did. -/
def fnFitSortedUptoRow : OpenClaim := { program := "ytiochiokcefbkaa", sum := "1be531d279ea32cf433396f1954aaae53db4a1432f2fc0bbc6d8e392919302ed", func := "loop.example/sortingoffice/laws.FnFitSorted", spec := "fnFitSorted", unfollowed := true, recurses := true, apart := false, narrowed := true }
def FnFitSortedUptoSaid : Prop := fnFitSortedUptoRow.holds Try.pinned (OpenSpec.upto fnFitSortedSpec)

end Rows
end Go.Proofs.Ytiochiokcefbkaa
