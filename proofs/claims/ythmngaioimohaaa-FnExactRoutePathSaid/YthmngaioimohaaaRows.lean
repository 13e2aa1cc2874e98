/-
  No cell of these rows narrows 'for every input' (looked for: loops, veiled, ifaces, maps, wideKeys, modest, calm, conditions, laid).
  DERIVED. THE GIVEN ROWS OF THIS SEAT. 4 by the template 'for every input the law returns true; each argument reads behind the call as it read before'; 0 by the template 'total and deterministic' (their statements: YthmngaioimohaaaTotals.lean).
  GIVEN WITH THE SEED: the statements are not yours to turn. If you find one false, say at which input.
  Laid BY PROGRAM, IN A SANDBOX (cutbox-rows.mjs): the forced cells as the released guide's own fill.sh prints them over the translation daf8d26961509ab4… (all of the seat's roots in one cut). By AI agents, Wed Nov 11 2026. No macro, syntax, notation, axiom, sorry.
-/
import Derived.Test.YthmngaioimohaaaChecked
import GoSem.Claim
import GoSem.ClaimJoined
import GoSem.ClaimMapViews
import Derived.JoinedTies
import Derived.KernelRfl
namespace Go.Proofs.Ythmngaioimohaaa
/- THE CELL 'sum', in the pinned program and in every row, IS THE sha256 OF THE DUMP (.gsa) THAT YthmngaioimohaaaProg.lean LOADS. Nothing in Lean hashes anything: it is a label: what it is worth is what the hold of that sum in a sandbox is worth. -/
noncomputable def Try.pinned : Pinned := { name := "ythmngaioimohaaa", sum := "daf8d26961509ab45656fc28691e6c682ddd88c6810030d225b957fd3f89d005", checked := Try.checked }
namespace Rows
def none {H : Type} : Left H := { results := [], args := [] }

/-- 'laws.FnExactNetworkValid': WHATEVER THE INPUT: true; the input reads as it did. -/
def fnExactNetworkValidSpec : ChangeSpec := { name := "fnExactNetworkValid", fn := fun _ => fun
  | [d] => { results := [.lit (.bool true)], args := [d] }
  | _ => none }
def fnExactNetworkValidRow : OpenClaim := { program := "ythmngaioimohaaa", sum := "daf8d26961509ab45656fc28691e6c682ddd88c6810030d225b957fd3f89d005", func := "loop.example/sortingoffice/laws.FnExactNetworkValid", spec := "fnExactNetworkValid", apart := false }
def FnExactNetworkValidSaid : Prop := fnExactNetworkValidRow.holds Try.pinned (OpenSpec.ofChange fnExactNetworkValidSpec)

/-- ITS FALSE NEIGHBOUR: 'it returns false'. Refute it at one input. -/
def fnExactNetworkValidWrong : ChangeSpec := { name := "fnExactNetworkValid", fn := fun _ => fun
  | [d] => { results := [.lit (.bool false)], args := [d] }
  | _ => none }
def FnExactNetworkValidWrongFalsely : Prop := fnExactNetworkValidRow.holds Try.pinned (OpenSpec.ofChange fnExactNetworkValidWrong)

/-- 'laws.FnExactFormatNetwork': WHATEVER THE INPUT: true; the input reads as it did. -/
def fnExactFormatNetworkSpec : ChangeSpec := { name := "fnExactFormatNetwork", fn := fun _ => fun
  | [d] => { results := [.lit (.bool true)], args := [d] }
  | _ => none }
def fnExactFormatNetworkRow : OpenClaim := { program := "ythmngaioimohaaa", sum := "daf8d26961509ab45656fc28691e6c682ddd88c6810030d225b957fd3f89d005", func := "loop.example/sortingoffice/laws.FnExactFormatNetwork", spec := "fnExactFormatNetwork", inPlace := ["internal/abi.NoEscape", "internal/bytealg.MakeNoZero"], apart := false }
def FnExactFormatNetworkSaid : Prop := fnExactFormatNetworkRow.holds Try.pinned (OpenSpec.ofChange fnExactFormatNetworkSpec)

/-- ITS FALSE NEIGHBOUR: 'it returns false'. Refute it at one input. -/
def fnExactFormatNetworkWrong : ChangeSpec := { name := "fnExactFormatNetwork", fn := fun _ => fun
  | [d] => { results := [.lit (.bool false)], args := [d] }
  | _ => none }
def FnExactFormatNetworkWrongFalsely : Prop := fnExactFormatNetworkRow.holds Try.pinned (OpenSpec.ofChange fnExactFormatNetworkWrong)

/-- 'laws.FnExactHomeOf': WHATEVER THE INPUT: true; the input reads as it did. -/
def fnExactHomeOfSpec : ChangeSpec := { name := "fnExactHomeOf", fn := fun _ => fun
  | [d1, d2, d3] => { results := [.lit (.bool true)], args := [d1, d2, d3] }
  | _ => none }
def fnExactHomeOfRow : OpenClaim := { program := "ythmngaioimohaaa", sum := "daf8d26961509ab45656fc28691e6c682ddd88c6810030d225b957fd3f89d005", func := "loop.example/sortingoffice/laws.FnExactHomeOf", spec := "fnExactHomeOf", apart := false }
def FnExactHomeOfSaid : Prop := fnExactHomeOfRow.holds Try.pinned (OpenSpec.ofChange fnExactHomeOfSpec)

/-- ITS FALSE NEIGHBOUR: 'it returns false'. Refute it at one input. -/
def fnExactHomeOfWrong : ChangeSpec := { name := "fnExactHomeOf", fn := fun _ => fun
  | [d1, d2, d3] => { results := [.lit (.bool false)], args := [d1, d2, d3] }
  | _ => none }
def FnExactHomeOfWrongFalsely : Prop := fnExactHomeOfRow.holds Try.pinned (OpenSpec.ofChange fnExactHomeOfWrong)

/-- 'laws.FnExactRoutePath': WHATEVER THE INPUT: true; the input reads as it did. -/
def fnExactRoutePathSpec : ChangeSpec := { name := "fnExactRoutePath", fn := fun _ => fun
  | [d1, d2, d3] => { results := [.lit (.bool true)], args := [d1, d2, d3] }
  | _ => none }
def fnExactRoutePathRow : OpenClaim := { program := "ythmngaioimohaaa", sum := "daf8d26961509ab45656fc28691e6c682ddd88c6810030d225b957fd3f89d005", func := "loop.example/sortingoffice/laws.FnExactRoutePath", spec := "fnExactRoutePath", apart := false }
def FnExactRoutePathSaid : Prop := fnExactRoutePathRow.holds Try.pinned (OpenSpec.ofChange fnExactRoutePathSpec)

/-- ITS FALSE NEIGHBOUR: 'it returns false'. Refute it at one input. -/
def fnExactRoutePathWrong : ChangeSpec := { name := "fnExactRoutePath", fn := fun _ => fun
  | [d1, d2, d3] => { results := [.lit (.bool false)], args := [d1, d2, d3] }
  | _ => none }
def FnExactRoutePathWrongFalsely : Prop := fnExactRoutePathRow.holds Try.pinned (OpenSpec.ofChange fnExactRoutePathWrong)

/- THE SECOND FORM. 'bulk': how many values and letters a reading holds, each counted each time it is reached (what is shared counts as often as it is met; a slice's spare places count too). A statement '..UptoSaid' is the law's where the arguments, and the package variables that the reading takes, are together of bulk at most 1048576: NARROWER than '..Said'. Prove '..Said' where nothing that the law and all that it calls make is longer than what came in: it says more and counts as full. Else prove '..UptoSaid'. A law counts once. -/
mutual
def uptoBulk {H : Type} : DataW H → Nat
  | .lit (.string bytes) => bytes.length + 1
  | .lit _ => 1
  | .nil => 1
  | .ptr d => uptoBulk d + 1
  | .slice elems spare => uptoBulkAll elems + uptoBulkAll spare + 1
  | .agg parts => uptoBulkAll parts + 1
  | .iface _ d => uptoBulk d + 1
  | .map entries => uptoBulkEntries entries + 1
  | .held _ => 1
def uptoBulkAll {H : Type} : List (DataW H) → Nat
  | [] => 0
  | d :: r => uptoBulk d + uptoBulkAll r
def uptoBulkEntries {H : Type} : List (Lit × DataW H) → Nat
  | [] => 0
  | x :: r => uptoBulkEntry x + uptoBulkEntries r
def uptoBulkEntry {H : Type} : Lit × DataW H → Nat
  | (.string bytes, d) => bytes.length + uptoBulk d + 1
  | (_, d) => uptoBulk d + 1
 end
def uptoSmall : (H : Type) → List (DataW H) → Bool := fun _ ds => decide (uptoBulkAll ds ≤ 1048576)
def OpenSpec.upto (s : _root_.Go.ChangeSpec) : _root_.Go.OpenSpec := { _root_.Go.OpenSpec.ofChange s with cond := some uptoSmall }

/-- 'laws.FnExactNetworkValid', WHERE WHAT IT READS IS OF BULK AT MOST 1048576: true; the input reads as it did. -/
def fnExactNetworkValidUptoRow : OpenClaim := { program := "ythmngaioimohaaa", sum := "daf8d26961509ab45656fc28691e6c682ddd88c6810030d225b957fd3f89d005", func := "loop.example/sortingoffice/laws.FnExactNetworkValid", spec := "fnExactNetworkValid", apart := false, narrowed := true }
def FnExactNetworkValidUptoSaid : Prop := fnExactNetworkValidUptoRow.holds Try.pinned (OpenSpec.upto fnExactNetworkValidSpec)

/-- 'laws.FnExactFormatNetwork', WHERE WHAT IT READS IS OF BULK AT MOST 1048576: true; the input reads as it did. -/
def fnExactFormatNetworkUptoRow : OpenClaim := { program := "ythmngaioimohaaa", sum := "daf8d26961509ab45656fc28691e6c682ddd88c6810030d225b957fd3f89d005", func := "loop.example/sortingoffice/laws.FnExactFormatNetwork", spec := "fnExactFormatNetwork", inPlace := ["internal/abi.NoEscape", "internal/bytealg.MakeNoZero"], apart := false, narrowed := true }
def FnExactFormatNetworkUptoSaid : Prop := fnExactFormatNetworkUptoRow.holds Try.pinned (OpenSpec.upto fnExactFormatNetworkSpec)

/-- 'laws.FnExactHomeOf', WHERE WHAT IT READS IS OF BULK AT MOST 1048576: true; the input reads as it did. -/
def fnExactHomeOfUptoRow : OpenClaim := { program := "ythmngaioimohaaa", sum := "daf8d26961509ab45656fc28691e6c682ddd88c6810030d225b957fd3f89d005", func := "loop.example/sortingoffice/laws.FnExactHomeOf", spec := "fnExactHomeOf", apart := false, narrowed := true }
def FnExactHomeOfUptoSaid : Prop := fnExactHomeOfUptoRow.holds Try.pinned (OpenSpec.upto fnExactHomeOfSpec)

/-- 'laws.FnExactRoutePath', WHERE WHAT IT READS IS OF BULK AT MOST 1048576: true; the input reads as it did. -/
def fnExactRoutePathUptoRow : OpenClaim := { program := "ythmngaioimohaaa", sum := "daf8d26961509ab45656fc28691e6c682ddd88c6810030d225b957fd3f89d005", func := "loop.example/sortingoffice/laws.FnExactRoutePath", spec := "fnExactRoutePath", apart := false, narrowed := true }
def FnExactRoutePathUptoSaid : Prop := fnExactRoutePathUptoRow.holds Try.pinned (OpenSpec.upto fnExactRoutePathSpec)

end Rows
end Go.Proofs.Ythmngaioimohaaa
