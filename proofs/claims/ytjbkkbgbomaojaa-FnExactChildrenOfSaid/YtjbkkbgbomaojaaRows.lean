/-
  No cell of these rows narrows 'for every input' (looked for: loops, veiled, ifaces, maps, wideKeys, modest, calm, conditions, laid).
  DERIVED. THE GIVEN ROWS OF THIS SEAT. 6 by the template 'for every input the law returns true; each argument reads behind the call as it read before'; 0 by the template 'total and deterministic' (their statements: YtjbkkbgbomaojaaTotals.lean).
  GIVEN WITH THE SEED: the statements are not yours to turn. If you find one false, say at which input.
  Laid BY PROGRAM, IN A SANDBOX (cutbox-rows.mjs): the forced cells as the released guide's own fill.sh prints them over the translation ed53ebcb029549c0… (all of the seat's roots in one cut). By AI agents, Wed Nov 11 2026. No macro, syntax, notation, axiom, sorry.
-/
import Derived.Test.YtjbkkbgbomaojaaChecked
import GoSem.Claim
import GoSem.ClaimJoined
import GoSem.ClaimMapViews
import Derived.JoinedTies
import Derived.KernelRfl
namespace Go.Proofs.Ytjbkkbgbomaojaa
/- THE CELL 'sum', in the pinned program and in every row, IS THE sha256 OF THE DUMP (.gsa) THAT YtjbkkbgbomaojaaProg.lean LOADS. Nothing in Lean hashes anything: it is a label: what it is worth is what the hold of that sum in a sandbox is worth. -/
noncomputable def Try.pinned : Pinned := { name := "ytjbkkbgbomaojaa", sum := "ed53ebcb029549c0e4be052dee3bd505d058f4906e36775e487eb5c71197f6e3", checked := Try.checked }
namespace Rows
def none {H : Type} : Left H := { results := [], args := [] }

/-- 'laws.FnExactEqualModuleTrees': WHATEVER THE INPUT: true; the input reads as it did. -/
def fnExactEqualModuleTreesSpec : ChangeSpec := { name := "fnExactEqualModuleTrees", fn := fun _ => fun
  | [d1, d2] => { results := [.lit (.bool true)], args := [d1, d2] }
  | _ => none }
def fnExactEqualModuleTreesRow : OpenClaim := { program := "ytjbkkbgbomaojaa", sum := "ed53ebcb029549c0e4be052dee3bd505d058f4906e36775e487eb5c71197f6e3", func := "loop.example/g02081/laws.FnExactEqualModuleTrees", spec := "fnExactEqualModuleTrees", apart := false }
def FnExactEqualModuleTreesSaid : Prop := fnExactEqualModuleTreesRow.holds Try.pinned (OpenSpec.ofChange fnExactEqualModuleTreesSpec)

/-- ITS FALSE NEIGHBOUR: 'it returns false'. Refute it at one input. -/
def fnExactEqualModuleTreesWrong : ChangeSpec := { name := "fnExactEqualModuleTrees", fn := fun _ => fun
  | [d1, d2] => { results := [.lit (.bool false)], args := [d1, d2] }
  | _ => none }
def FnExactEqualModuleTreesWrongFalsely : Prop := fnExactEqualModuleTreesRow.holds Try.pinned (OpenSpec.ofChange fnExactEqualModuleTreesWrong)

/-- 'laws.FnExactChildrenOf': WHATEVER THE INPUT: true; the input reads as it did. -/
def fnExactChildrenOfSpec : ChangeSpec := { name := "fnExactChildrenOf", fn := fun _ => fun
  | [d1, d2] => { results := [.lit (.bool true)], args := [d1, d2] }
  | _ => none }
def fnExactChildrenOfRow : OpenClaim := { program := "ytjbkkbgbomaojaa", sum := "ed53ebcb029549c0e4be052dee3bd505d058f4906e36775e487eb5c71197f6e3", func := "loop.example/g02081/laws.FnExactChildrenOf", spec := "fnExactChildrenOf", apart := false }
def FnExactChildrenOfSaid : Prop := fnExactChildrenOfRow.holds Try.pinned (OpenSpec.ofChange fnExactChildrenOfSpec)

/-- ITS FALSE NEIGHBOUR: 'it returns false'. Refute it at one input. -/
def fnExactChildrenOfWrong : ChangeSpec := { name := "fnExactChildrenOf", fn := fun _ => fun
  | [d1, d2] => { results := [.lit (.bool false)], args := [d1, d2] }
  | _ => none }
def FnExactChildrenOfWrongFalsely : Prop := fnExactChildrenOfRow.holds Try.pinned (OpenSpec.ofChange fnExactChildrenOfWrong)

/-- 'laws.FnExactDepthOf': WHATEVER THE INPUT: true; the input reads as it did. -/
def fnExactDepthOfSpec : ChangeSpec := { name := "fnExactDepthOf", fn := fun _ => fun
  | [d] => { results := [.lit (.bool true)], args := [d] }
  | _ => none }
def fnExactDepthOfRow : OpenClaim := { program := "ytjbkkbgbomaojaa", sum := "ed53ebcb029549c0e4be052dee3bd505d058f4906e36775e487eb5c71197f6e3", func := "loop.example/g02081/laws.FnExactDepthOf", spec := "fnExactDepthOf", apart := false }
def FnExactDepthOfSaid : Prop := fnExactDepthOfRow.holds Try.pinned (OpenSpec.ofChange fnExactDepthOfSpec)

/-- ITS FALSE NEIGHBOUR: 'it returns false'. Refute it at one input. -/
def fnExactDepthOfWrong : ChangeSpec := { name := "fnExactDepthOf", fn := fun _ => fun
  | [d] => { results := [.lit (.bool false)], args := [d] }
  | _ => none }
def FnExactDepthOfWrongFalsely : Prop := fnExactDepthOfRow.holds Try.pinned (OpenSpec.ofChange fnExactDepthOfWrong)

/-- 'laws.FnExactAreThresholdWeights': WHATEVER THE INPUT: true; the input reads as it did. -/
def fnExactAreThresholdWeightsSpec : ChangeSpec := { name := "fnExactAreThresholdWeights", fn := fun _ => fun
  | [d1, d2, d3] => { results := [.lit (.bool true)], args := [d1, d2, d3] }
  | _ => none }
def fnExactAreThresholdWeightsRow : OpenClaim := { program := "ytjbkkbgbomaojaa", sum := "ed53ebcb029549c0e4be052dee3bd505d058f4906e36775e487eb5c71197f6e3", func := "loop.example/g02081/laws.FnExactAreThresholdWeights", spec := "fnExactAreThresholdWeights", apart := false }
def FnExactAreThresholdWeightsSaid : Prop := fnExactAreThresholdWeightsRow.holds Try.pinned (OpenSpec.ofChange fnExactAreThresholdWeightsSpec)

/-- ITS FALSE NEIGHBOUR: 'it returns false'. Refute it at one input. -/
def fnExactAreThresholdWeightsWrong : ChangeSpec := { name := "fnExactAreThresholdWeights", fn := fun _ => fun
  | [d1, d2, d3] => { results := [.lit (.bool false)], args := [d1, d2, d3] }
  | _ => none }
def FnExactAreThresholdWeightsWrongFalsely : Prop := fnExactAreThresholdWeightsRow.holds Try.pinned (OpenSpec.ofChange fnExactAreThresholdWeightsWrong)

/-- 'laws.FnExactIsCover': WHATEVER THE INPUT: true; the input reads as it did. -/
def fnExactIsCoverSpec : ChangeSpec := { name := "fnExactIsCover", fn := fun _ => fun
  | [d1, d2] => { results := [.lit (.bool true)], args := [d1, d2] }
  | _ => none }
def fnExactIsCoverRow : OpenClaim := { program := "ytjbkkbgbomaojaa", sum := "ed53ebcb029549c0e4be052dee3bd505d058f4906e36775e487eb5c71197f6e3", func := "loop.example/g02081/laws.FnExactIsCover", spec := "fnExactIsCover", apart := false }
def FnExactIsCoverSaid : Prop := fnExactIsCoverRow.holds Try.pinned (OpenSpec.ofChange fnExactIsCoverSpec)

/-- ITS FALSE NEIGHBOUR: 'it returns false'. Refute it at one input. -/
def fnExactIsCoverWrong : ChangeSpec := { name := "fnExactIsCover", fn := fun _ => fun
  | [d1, d2] => { results := [.lit (.bool false)], args := [d1, d2] }
  | _ => none }
def FnExactIsCoverWrongFalsely : Prop := fnExactIsCoverRow.holds Try.pinned (OpenSpec.ofChange fnExactIsCoverWrong)

/-- 'laws.FnExactIsModule': WHATEVER THE INPUT: true; the input reads as it did. -/
def fnExactIsModuleSpec : ChangeSpec := { name := "fnExactIsModule", fn := fun _ => fun
  | [d1, d2] => { results := [.lit (.bool true)], args := [d1, d2] }
  | _ => none }
def fnExactIsModuleRow : OpenClaim := { program := "ytjbkkbgbomaojaa", sum := "ed53ebcb029549c0e4be052dee3bd505d058f4906e36775e487eb5c71197f6e3", func := "loop.example/g02081/laws.FnExactIsModule", spec := "fnExactIsModule", apart := false }
def FnExactIsModuleSaid : Prop := fnExactIsModuleRow.holds Try.pinned (OpenSpec.ofChange fnExactIsModuleSpec)

/-- ITS FALSE NEIGHBOUR: 'it returns false'. Refute it at one input. -/
def fnExactIsModuleWrong : ChangeSpec := { name := "fnExactIsModule", fn := fun _ => fun
  | [d1, d2] => { results := [.lit (.bool false)], args := [d1, d2] }
  | _ => none }
def FnExactIsModuleWrongFalsely : Prop := fnExactIsModuleRow.holds Try.pinned (OpenSpec.ofChange fnExactIsModuleWrong)

/- THE SECOND FORM. 'bulk': how many values and letters a reading holds, each counted each time it is reached (what is shared counts as often as it is met; a slice's spare places count too). A statement '..UptoSaid' is the law's where the arguments, and the package variables that the reading takes, are together of bulk at most 1048576: NARROWER than '..Said'. Prove '..Said' where nothing that the law and all that it calls make is longer than what came in: it says more and counts as full. Else prove '..UptoSaid'. A law counts once. -/
mutual
def uptoBulk {H : Type} : DataW H → Nat
  | .lit (.string bytes) => bytes.length + 1
  | .lit _ => 1
  | .nil => 1
  | .ptr d => uptoBulk d + 1
  | .slice elems spare => uptoBulkAll elems + uptoBulkAll spare + 1
  | .agg parts => uptoBulkAll parts + 1
  | .iface _ d => uptoBulk d + 1
  | .map entries => uptoBulkEntries entries + 1
  | .held _ => 1
def uptoBulkAll {H : Type} : List (DataW H) → Nat
  | [] => 0
  | d :: r => uptoBulk d + uptoBulkAll r
def uptoBulkEntries {H : Type} : List (Lit × DataW H) → Nat
  | [] => 0
  | x :: r => uptoBulkEntry x + uptoBulkEntries r
def uptoBulkEntry {H : Type} : Lit × DataW H → Nat
  | (.string bytes, d) => bytes.length + uptoBulk d + 1
  | (_, d) => uptoBulk d + 1
 end
def uptoSmall : (H : Type) → List (DataW H) → Bool := fun _ ds => decide (uptoBulkAll ds ≤ 1048576)
def OpenSpec.upto (s : _root_.Go.ChangeSpec) : _root_.Go.OpenSpec := { _root_.Go.OpenSpec.ofChange s with cond := some uptoSmall }

/-- 'laws.FnExactEqualModuleTrees', WHERE WHAT IT READS IS OF BULK AT MOST 1048576: true; the input reads as it did. -/
def fnExactEqualModuleTreesUptoRow : OpenClaim := { program := "ytjbkkbgbomaojaa", sum := "ed53ebcb029549c0e4be052dee3bd505d058f4906e36775e487eb5c71197f6e3", func := "loop.example/g02081/laws.FnExactEqualModuleTrees", spec := "fnExactEqualModuleTrees", apart := false, narrowed := true }
def FnExactEqualModuleTreesUptoSaid : Prop := fnExactEqualModuleTreesUptoRow.holds Try.pinned (OpenSpec.upto fnExactEqualModuleTreesSpec)

/-- 'laws.FnExactChildrenOf', WHERE WHAT IT READS IS OF BULK AT MOST 1048576: true; the input reads as it did. -/
def fnExactChildrenOfUptoRow : OpenClaim := { program := "ytjbkkbgbomaojaa", sum := "ed53ebcb029549c0e4be052dee3bd505d058f4906e36775e487eb5c71197f6e3", func := "loop.example/g02081/laws.FnExactChildrenOf", spec := "fnExactChildrenOf", apart := false, narrowed := true }
def FnExactChildrenOfUptoSaid : Prop := fnExactChildrenOfUptoRow.holds Try.pinned (OpenSpec.upto fnExactChildrenOfSpec)

/-- 'laws.FnExactDepthOf', WHERE WHAT IT READS IS OF BULK AT MOST 1048576: true; the input reads as it did. -/
def fnExactDepthOfUptoRow : OpenClaim := { program := "ytjbkkbgbomaojaa", sum := "ed53ebcb029549c0e4be052dee3bd505d058f4906e36775e487eb5c71197f6e3", func := "loop.example/g02081/laws.FnExactDepthOf", spec := "fnExactDepthOf", apart := false, narrowed := true }
def FnExactDepthOfUptoSaid : Prop := fnExactDepthOfUptoRow.holds Try.pinned (OpenSpec.upto fnExactDepthOfSpec)

/-- 'laws.FnExactAreThresholdWeights', WHERE WHAT IT READS IS OF BULK AT MOST 1048576: true; the input reads as it did. -/
def fnExactAreThresholdWeightsUptoRow : OpenClaim := { program := "ytjbkkbgbomaojaa", sum := "ed53ebcb029549c0e4be052dee3bd505d058f4906e36775e487eb5c71197f6e3", func := "loop.example/g02081/laws.FnExactAreThresholdWeights", spec := "fnExactAreThresholdWeights", apart := false, narrowed := true }
def FnExactAreThresholdWeightsUptoSaid : Prop := fnExactAreThresholdWeightsUptoRow.holds Try.pinned (OpenSpec.upto fnExactAreThresholdWeightsSpec)

/-- 'laws.FnExactIsCover', WHERE WHAT IT READS IS OF BULK AT MOST 1048576: true; the input reads as it did. -/
def fnExactIsCoverUptoRow : OpenClaim := { program := "ytjbkkbgbomaojaa", sum := "ed53ebcb029549c0e4be052dee3bd505d058f4906e36775e487eb5c71197f6e3", func := "loop.example/g02081/laws.FnExactIsCover", spec := "fnExactIsCover", apart := false, narrowed := true }
def FnExactIsCoverUptoSaid : Prop := fnExactIsCoverUptoRow.holds Try.pinned (OpenSpec.upto fnExactIsCoverSpec)

/-- 'laws.FnExactIsModule', WHERE WHAT IT READS IS OF BULK AT MOST 1048576: true; the input reads as it did. -/
def fnExactIsModuleUptoRow : OpenClaim := { program := "ytjbkkbgbomaojaa", sum := "ed53ebcb029549c0e4be052dee3bd505d058f4906e36775e487eb5c71197f6e3", func := "loop.example/g02081/laws.FnExactIsModule", spec := "fnExactIsModule", apart := false, narrowed := true }
def FnExactIsModuleUptoSaid : Prop := fnExactIsModuleUptoRow.holds Try.pinned (OpenSpec.upto fnExactIsModuleSpec)

end Rows
end Go.Proofs.Ytjbkkbgbomaojaa
