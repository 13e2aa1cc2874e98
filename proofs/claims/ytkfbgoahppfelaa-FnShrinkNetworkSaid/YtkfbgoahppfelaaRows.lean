/-
  No cell of these rows narrows 'for every input' (looked for: loops, veiled, ifaces, maps, wideKeys, modest, calm, conditions, laid).
  DERIVED. THE GIVEN ROWS OF THIS SEAT. 9 by the template 'for every input the law returns true; each argument reads behind the call as it read before'; 0 by the template 'total and deterministic' (their statements: YtkfbgoahppfelaaTotals.lean).
  GIVEN WITH THE SEED: the statements are not yours to turn. If you find one false, say at which input.
  Laid BY PROGRAM, IN A SANDBOX (cutbox-rows.mjs): the forced cells as the released guide's own fill.sh prints them over the translation bcbf788f6c406447… (all of the seat's roots in one cut). By AI agents, Wed Nov 11 2026. No macro, syntax, notation, axiom, sorry.
-/
import Derived.Test.YtkfbgoahppfelaaChecked
import GoSem.Claim
import GoSem.ClaimJoined
import GoSem.ClaimMapViews
import Derived.JoinedTies
import Derived.KernelRfl
namespace Go.Proofs.Ytkfbgoahppfelaa
/- THE CELL 'sum', in the pinned program and in every row, IS THE sha256 OF THE DUMP (.gsa) THAT YtkfbgoahppfelaaProg.lean LOADS. Nothing in Lean hashes anything: it is a label: what it is worth is what the hold of that sum in a sandbox is worth. -/
noncomputable def Try.pinned : Pinned := { name := "ytkfbgoahppfelaa", sum := "bcbf788f6c40644749fe05522902e142fa2e43c9cddf6bb830b27b90f3f95a86", checked := Try.checked }
namespace Rows
def none {H : Type} : Left H := { results := [], args := [] }

/-- 'laws.FnLookUp': WHATEVER THE INPUT: true; the input reads as it did. -/
def fnLookUpSpec : ChangeSpec := { name := "fnLookUp", fn := fun _ => fun
  | [d] => { results := [.lit (.bool true)], args := [d] }
  | _ => none }
def fnLookUpRow : OpenClaim := { program := "ytkfbgoahppfelaa", sum := "bcbf788f6c40644749fe05522902e142fa2e43c9cddf6bb830b27b90f3f95a86", func := "loop.example/sortingoffice/laws.FnLookUp", spec := "fnLookUp", recurses := true, apart := false }
def FnLookUpSaid : Prop := fnLookUpRow.holds Try.pinned (OpenSpec.ofChange fnLookUpSpec)

/-- ITS FALSE NEIGHBOUR: 'it returns false'. Refute it at one input. -/
def fnLookUpWrong : ChangeSpec := { name := "fnLookUp", fn := fun _ => fun
  | [d] => { results := [.lit (.bool false)], args := [d] }
  | _ => none }
def FnLookUpWrongFalsely : Prop := fnLookUpRow.holds Try.pinned (OpenSpec.ofChange fnLookUpWrong)

/-- 'laws.FnAddRule': WHATEVER THE INPUT: true; the input reads as it did. -/
def fnAddRuleSpec : ChangeSpec := { name := "fnAddRule", fn := fun _ => fun
  | [d] => { results := [.lit (.bool true)], args := [d] }
  | _ => none }
def fnAddRuleRow : OpenClaim := { program := "ytkfbgoahppfelaa", sum := "bcbf788f6c40644749fe05522902e142fa2e43c9cddf6bb830b27b90f3f95a86", func := "loop.example/sortingoffice/laws.FnAddRule", spec := "fnAddRule", recurses := true, apart := false }
def FnAddRuleSaid : Prop := fnAddRuleRow.holds Try.pinned (OpenSpec.ofChange fnAddRuleSpec)

/-- ITS FALSE NEIGHBOUR: 'it returns false'. Refute it at one input. -/
def fnAddRuleWrong : ChangeSpec := { name := "fnAddRule", fn := fun _ => fun
  | [d] => { results := [.lit (.bool false)], args := [d] }
  | _ => none }
def FnAddRuleWrongFalsely : Prop := fnAddRuleRow.holds Try.pinned (OpenSpec.ofChange fnAddRuleWrong)

/-- 'laws.FnShrink': WHATEVER THE INPUT: true; the input reads as it did. -/
def fnShrinkSpec : ChangeSpec := { name := "fnShrink", fn := fun _ => fun
  | [d] => { results := [.lit (.bool true)], args := [d] }
  | _ => none }
def fnShrinkRow : OpenClaim := { program := "ytkfbgoahppfelaa", sum := "bcbf788f6c40644749fe05522902e142fa2e43c9cddf6bb830b27b90f3f95a86", func := "loop.example/sortingoffice/laws.FnShrink", spec := "fnShrink", recurses := true, apart := false }
def FnShrinkSaid : Prop := fnShrinkRow.holds Try.pinned (OpenSpec.ofChange fnShrinkSpec)

/-- ITS FALSE NEIGHBOUR: 'it returns false'. Refute it at one input. -/
def fnShrinkWrong : ChangeSpec := { name := "fnShrink", fn := fun _ => fun
  | [d] => { results := [.lit (.bool false)], args := [d] }
  | _ => none }
def FnShrinkWrongFalsely : Prop := fnShrinkRow.holds Try.pinned (OpenSpec.ofChange fnShrinkWrong)

/-- 'laws.FnRemoveRule': WHATEVER THE INPUT: true; the input reads as it did. -/
def fnRemoveRuleSpec : ChangeSpec := { name := "fnRemoveRule", fn := fun _ => fun
  | [d] => { results := [.lit (.bool true)], args := [d] }
  | _ => none }
def fnRemoveRuleRow : OpenClaim := { program := "ytkfbgoahppfelaa", sum := "bcbf788f6c40644749fe05522902e142fa2e43c9cddf6bb830b27b90f3f95a86", func := "loop.example/sortingoffice/laws.FnRemoveRule", spec := "fnRemoveRule", recurses := true, apart := false }
def FnRemoveRuleSaid : Prop := fnRemoveRuleRow.holds Try.pinned (OpenSpec.ofChange fnRemoveRuleSpec)

/-- ITS FALSE NEIGHBOUR: 'it returns false'. Refute it at one input. -/
def fnRemoveRuleWrong : ChangeSpec := { name := "fnRemoveRule", fn := fun _ => fun
  | [d] => { results := [.lit (.bool false)], args := [d] }
  | _ => none }
def FnRemoveRuleWrongFalsely : Prop := fnRemoveRuleRow.holds Try.pinned (OpenSpec.ofChange fnRemoveRuleWrong)

/-- 'laws.FnSameRules': WHATEVER THE INPUT: true; the input reads as it did. -/
def fnSameRulesSpec : ChangeSpec := { name := "fnSameRules", fn := fun _ => fun
  | [d] => { results := [.lit (.bool true)], args := [d] }
  | _ => none }
def fnSameRulesRow : OpenClaim := { program := "ytkfbgoahppfelaa", sum := "bcbf788f6c40644749fe05522902e142fa2e43c9cddf6bb830b27b90f3f95a86", func := "loop.example/sortingoffice/laws.FnSameRules", spec := "fnSameRules", recurses := true, apart := false }
def FnSameRulesSaid : Prop := fnSameRulesRow.holds Try.pinned (OpenSpec.ofChange fnSameRulesSpec)

/-- ITS FALSE NEIGHBOUR: 'it returns false'. Refute it at one input. -/
def fnSameRulesWrong : ChangeSpec := { name := "fnSameRules", fn := fun _ => fun
  | [d] => { results := [.lit (.bool false)], args := [d] }
  | _ => none }
def FnSameRulesWrongFalsely : Prop := fnSameRulesRow.holds Try.pinned (OpenSpec.ofChange fnSameRulesWrong)

/-- 'laws.FnRouteSuffix': WHATEVER THE INPUT: true; the input reads as it did. -/
def fnRouteSuffixSpec : ChangeSpec := { name := "fnRouteSuffix", fn := fun _ => fun
  | [d1, d2] => { results := [.lit (.bool true)], args := [d1, d2] }
  | _ => none }
def fnRouteSuffixRow : OpenClaim := { program := "ytkfbgoahppfelaa", sum := "bcbf788f6c40644749fe05522902e142fa2e43c9cddf6bb830b27b90f3f95a86", func := "loop.example/sortingoffice/laws.FnRouteSuffix", spec := "fnRouteSuffix", recurses := true, apart := false }
def FnRouteSuffixSaid : Prop := fnRouteSuffixRow.holds Try.pinned (OpenSpec.ofChange fnRouteSuffixSpec)

/-- ITS FALSE NEIGHBOUR: 'it returns false'. Refute it at one input. -/
def fnRouteSuffixWrong : ChangeSpec := { name := "fnRouteSuffix", fn := fun _ => fun
  | [d1, d2] => { results := [.lit (.bool false)], args := [d1, d2] }
  | _ => none }
def FnRouteSuffixWrongFalsely : Prop := fnRouteSuffixRow.holds Try.pinned (OpenSpec.ofChange fnRouteSuffixWrong)

/-- 'laws.FnHome': WHATEVER THE INPUT: true; the input reads as it did. -/
def fnHomeSpec : ChangeSpec := { name := "fnHome", fn := fun _ => fun
  | [d] => { results := [.lit (.bool true)], args := [d] }
  | _ => none }
def fnHomeRow : OpenClaim := { program := "ytkfbgoahppfelaa", sum := "bcbf788f6c40644749fe05522902e142fa2e43c9cddf6bb830b27b90f3f95a86", func := "loop.example/sortingoffice/laws.FnHome", spec := "fnHome", recurses := true, apart := false }
def FnHomeSaid : Prop := fnHomeRow.holds Try.pinned (OpenSpec.ofChange fnHomeSpec)

/-- ITS FALSE NEIGHBOUR: 'it returns false'. Refute it at one input. -/
def fnHomeWrong : ChangeSpec := { name := "fnHome", fn := fun _ => fun
  | [d] => { results := [.lit (.bool false)], args := [d] }
  | _ => none }
def FnHomeWrongFalsely : Prop := fnHomeRow.holds Try.pinned (OpenSpec.ofChange fnHomeWrong)

/-- 'laws.FnRoute': WHATEVER THE INPUT: true; the input reads as it did. -/
def fnRouteSpec : ChangeSpec := { name := "fnRoute", fn := fun _ => fun
  | [d] => { results := [.lit (.bool true)], args := [d] }
  | _ => none }
def fnRouteRow : OpenClaim := { program := "ytkfbgoahppfelaa", sum := "bcbf788f6c40644749fe05522902e142fa2e43c9cddf6bb830b27b90f3f95a86", func := "loop.example/sortingoffice/laws.FnRoute", spec := "fnRoute", recurses := true, apart := false }
def FnRouteSaid : Prop := fnRouteRow.holds Try.pinned (OpenSpec.ofChange fnRouteSpec)

/-- ITS FALSE NEIGHBOUR: 'it returns false'. Refute it at one input. -/
def fnRouteWrong : ChangeSpec := { name := "fnRoute", fn := fun _ => fun
  | [d] => { results := [.lit (.bool false)], args := [d] }
  | _ => none }
def FnRouteWrongFalsely : Prop := fnRouteRow.holds Try.pinned (OpenSpec.ofChange fnRouteWrong)

/-- 'laws.FnShrinkNetwork': WHATEVER THE INPUT: true; the input reads as it did. -/
def fnShrinkNetworkSpec : ChangeSpec := { name := "fnShrinkNetwork", fn := fun _ => fun
  | [d] => { results := [.lit (.bool true)], args := [d] }
  | _ => none }
def fnShrinkNetworkRow : OpenClaim := { program := "ytkfbgoahppfelaa", sum := "bcbf788f6c40644749fe05522902e142fa2e43c9cddf6bb830b27b90f3f95a86", func := "loop.example/sortingoffice/laws.FnShrinkNetwork", spec := "fnShrinkNetwork", recurses := true, apart := false }
def FnShrinkNetworkSaid : Prop := fnShrinkNetworkRow.holds Try.pinned (OpenSpec.ofChange fnShrinkNetworkSpec)

/-- ITS FALSE NEIGHBOUR: 'it returns false'. Refute it at one input. -/
def fnShrinkNetworkWrong : ChangeSpec := { name := "fnShrinkNetwork", fn := fun _ => fun
  | [d] => { results := [.lit (.bool false)], args := [d] }
  | _ => none }
def FnShrinkNetworkWrongFalsely : Prop := fnShrinkNetworkRow.holds Try.pinned (OpenSpec.ofChange fnShrinkNetworkWrong)

/- THE SECOND FORM. 'bulk': how many values and letters a reading holds, each counted each time it is reached (what is shared counts as often as it is met; a slice's spare places count too). A statement '..UptoSaid' is the law's where the arguments, and the package variables that the reading takes, are together of bulk at most 1048576: NARROWER than '..Said'. Prove '..Said' where nothing that the law and all that it calls make is longer than what came in: it says more and counts as full. Else prove '..UptoSaid'. A law counts once. -/
mutual
def uptoBulk {H : Type} : DataW H → Nat
  | .lit (.string bytes) => bytes.length + 1
  | .lit _ => 1
  | .nil => 1
  | .ptr d => uptoBulk d + 1
  | .slice elems spare => uptoBulkAll elems + uptoBulkAll spare + 1
  | .agg parts => uptoBulkAll parts + 1
  | .iface _ d => uptoBulk d + 1
  | .map entries => uptoBulkEntries entries + 1
  | .held _ => 1
def uptoBulkAll {H : Type} : List (DataW H) → Nat
  | [] => 0
  | d :: r => uptoBulk d + uptoBulkAll r
def uptoBulkEntries {H : Type} : List (Lit × DataW H) → Nat
  | [] => 0
  | x :: r => uptoBulkEntry x + uptoBulkEntries r
def uptoBulkEntry {H : Type} : Lit × DataW H → Nat
  | (.string bytes, d) => bytes.length + uptoBulk d + 1
  | (_, d) => uptoBulk d + 1
 end
def uptoSmall : (H : Type) → List (DataW H) → Bool := fun _ ds => decide (uptoBulkAll ds ≤ 1048576)
def OpenSpec.upto (s : _root_.Go.ChangeSpec) : _root_.Go.OpenSpec := { _root_.Go.OpenSpec.ofChange s with cond := some uptoSmall }

/-- 'laws.FnLookUp', WHERE WHAT IT READS IS OF BULK AT MOST 1048576: true; the input reads as it did. -/
def fnLookUpUptoRow : OpenClaim := { program := "ytkfbgoahppfelaa", sum := "bcbf788f6c40644749fe05522902e142fa2e43c9cddf6bb830b27b90f3f95a86", func := "loop.example/sortingoffice/laws.FnLookUp", spec := "fnLookUp", recurses := true, apart := false, narrowed := true }
def FnLookUpUptoSaid : Prop := fnLookUpUptoRow.holds Try.pinned (OpenSpec.upto fnLookUpSpec)

/-- 'laws.FnAddRule', WHERE WHAT IT READS IS OF BULK AT MOST 1048576: true; the input reads as it did. -/
def fnAddRuleUptoRow : OpenClaim := { program := "ytkfbgoahppfelaa", sum := "bcbf788f6c40644749fe05522902e142fa2e43c9cddf6bb830b27b90f3f95a86", func := "loop.example/sortingoffice/laws.FnAddRule", spec := "fnAddRule", recurses := true, apart := false, narrowed := true }
def FnAddRuleUptoSaid : Prop := fnAddRuleUptoRow.holds Try.pinned (OpenSpec.upto fnAddRuleSpec)

/-- 'laws.FnShrink', WHERE WHAT IT READS IS OF BULK AT MOST 1048576: true; the input reads as it did. -/
def fnShrinkUptoRow : OpenClaim := { program := "ytkfbgoahppfelaa", sum := "bcbf788f6c40644749fe05522902e142fa2e43c9cddf6bb830b27b90f3f95a86", func := "loop.example/sortingoffice/laws.FnShrink", spec := "fnShrink", recurses := true, apart := false, narrowed := true }
def FnShrinkUptoSaid : Prop := fnShrinkUptoRow.holds Try.pinned (OpenSpec.upto fnShrinkSpec)

/-- 'laws.FnRemoveRule', WHERE WHAT IT READS IS OF BULK AT MOST 1048576: true; the input reads as it did. -/
def fnRemoveRuleUptoRow : OpenClaim := { program := "ytkfbgoahppfelaa", sum := "bcbf788f6c40644749fe05522902e142fa2e43c9cddf6bb830b27b90f3f95a86", func := "loop.example/sortingoffice/laws.FnRemoveRule", spec := "fnRemoveRule", recurses := true, apart := false, narrowed := true }
def FnRemoveRuleUptoSaid : Prop := fnRemoveRuleUptoRow.holds Try.pinned (OpenSpec.upto fnRemoveRuleSpec)

/-- 'laws.FnSameRules', WHERE WHAT IT READS IS OF BULK AT MOST 1048576: true; the input reads as it did. -/
def fnSameRulesUptoRow : OpenClaim := { program := "ytkfbgoahppfelaa", sum := "bcbf788f6c40644749fe05522902e142fa2e43c9cddf6bb830b27b90f3f95a86", func := "loop.example/sortingoffice/laws.FnSameRules", spec := "fnSameRules", recurses := true, apart := false, narrowed := true }
def FnSameRulesUptoSaid : Prop := fnSameRulesUptoRow.holds Try.pinned (OpenSpec.upto fnSameRulesSpec)

/-- 'laws.FnRouteSuffix', WHERE WHAT IT READS IS OF BULK AT MOST 1048576: true; the input reads as it did. -/
def fnRouteSuffixUptoRow : OpenClaim := { program := "ytkfbgoahppfelaa", sum := "bcbf788f6c40644749fe05522902e142fa2e43c9cddf6bb830b27b90f3f95a86", func := "loop.example/sortingoffice/laws.FnRouteSuffix", spec := "fnRouteSuffix", recurses := true, apart := false, narrowed := true }
def FnRouteSuffixUptoSaid : Prop := fnRouteSuffixUptoRow.holds Try.pinned (OpenSpec.upto fnRouteSuffixSpec)

/-- 'laws.FnHome', WHERE WHAT IT READS IS OF BULK AT MOST 1048576: true; the input reads as it did. -/
def fnHomeUptoRow : OpenClaim := { program := "ytkfbgoahppfelaa", sum := "bcbf788f6c40644749fe05522902e142fa2e43c9cddf6bb830b27b90f3f95a86", func := "loop.example/sortingoffice/laws.FnHome", spec := "fnHome", recurses := true, apart := false, narrowed := true }
def FnHomeUptoSaid : Prop := fnHomeUptoRow.holds Try.pinned (OpenSpec.upto fnHomeSpec)

/-- 'laws.FnRoute', WHERE WHAT IT READS IS OF BULK AT MOST 1048576: true; the input reads as it did. -/
def fnRouteUptoRow : OpenClaim := { program := "ytkfbgoahppfelaa", sum := "bcbf788f6c40644749fe05522902e142fa2e43c9cddf6bb830b27b90f3f95a86", func := "loop.example/sortingoffice/laws.FnRoute", spec := "fnRoute", recurses := true, apart := false, narrowed := true }
def FnRouteUptoSaid : Prop := fnRouteUptoRow.holds Try.pinned (OpenSpec.upto fnRouteSpec)

/-- 'laws.FnShrinkNetwork', WHERE WHAT IT READS IS OF BULK AT MOST 1048576: true; the input reads as it did. -/
def fnShrinkNetworkUptoRow : OpenClaim := { program := "ytkfbgoahppfelaa", sum := "bcbf788f6c40644749fe05522902e142fa2e43c9cddf6bb830b27b90f3f95a86", func := "loop.example/sortingoffice/laws.FnShrinkNetwork", spec := "fnShrinkNetwork", recurses := true, apart := false, narrowed := true }
def FnShrinkNetworkUptoSaid : Prop := fnShrinkNetworkUptoRow.holds Try.pinned (OpenSpec.upto fnShrinkNetworkSpec)

end Rows
end Go.Proofs.Ytkfbgoahppfelaa
