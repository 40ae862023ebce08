/-
  No cell of these rows narrows 'for every input' (looked for: loops, veiled, ifaces, maps, wideKeys, modest, calm, conditions, laid).
  DERIVED. THE GIVEN ROWS OF THIS SEAT. 7 by the template 'for every input the law returns true; each argument reads behind the call as it read before'; 0 by the template 'total and deterministic' (their statements: YtaadjebiglihlaaTotals.lean).
  GIVEN WITH THE SEED: the statements are not yours to turn. If you find one false, say at which input.
  Laid BY PROGRAM, IN A SANDBOX (cutbox-rows.mjs): the forced cells as the released guide's own fill.sh prints them over the translation 12a3726d5e7a5885… (all of the seat's roots in one cut). By AI agents, Wed Nov 11 2026. No macro, syntax, notation, axiom, sorry.
-/
import Derived.Test.YtaadjebiglihlaaChecked
import GoSem.Claim
import GoSem.ClaimJoined
import GoSem.ClaimMapViews
import Derived.JoinedTies
import Derived.KernelRfl
namespace Go.Proofs.Ytaadjebiglihlaa
/- THE CELL 'sum', in the pinned program and in every row, IS THE sha256 OF THE DUMP (.gsa) THAT YtaadjebiglihlaaProg.lean LOADS. Nothing in Lean hashes anything: it is a label: what it is worth is what the hold of that sum in a sandbox is worth. -/
noncomputable def Try.pinned : Pinned := { name := "ytaadjebiglihlaa", sum := "12a3726d5e7a58852eadf00ede51afc22421f78a2f5999af99387795826a3e60", checked := Try.checked }
namespace Rows
def none {H : Type} : Left H := { results := [], args := [] }

/-- 'laws.FnExactLongestIncreasing': WHATEVER THE INPUT: true; the input reads as it did. -/
def fnExactLongestIncreasingSpec : ChangeSpec := { name := "fnExactLongestIncreasing", fn := fun _ => fun
  | [d] => { results := [.lit (.bool true)], args := [d] }
  | _ => none }
def fnExactLongestIncreasingRow : OpenClaim := { program := "ytaadjebiglihlaa", sum := "12a3726d5e7a58852eadf00ede51afc22421f78a2f5999af99387795826a3e60", func := "loop.example/g02081/laws.FnExactLongestIncreasing", spec := "fnExactLongestIncreasing", unfollowed := true, recurses := true, apart := false }
def FnExactLongestIncreasingSaid : Prop := fnExactLongestIncreasingRow.holds Try.pinned (OpenSpec.ofChange fnExactLongestIncreasingSpec)

/-- ITS FALSE NEIGHBOUR: 'it returns false'. Refute it at one input. -/
def fnExactLongestIncreasingWrong : ChangeSpec := { name := "fnExactLongestIncreasing", fn := fun _ => fun
  | [d] => { results := [.lit (.bool false)], args := [d] }
  | _ => none }
def FnExactLongestIncreasingWrongFalsely : Prop := fnExactLongestIncreasingRow.holds Try.pinned (OpenSpec.ofChange fnExactLongestIncreasingWrong)

/-- 'laws.FnExactGraphOfPermutation': WHATEVER THE INPUT: true; the input reads as it did. -/
def fnExactGraphOfPermutationSpec : ChangeSpec := { name := "fnExactGraphOfPermutation", fn := fun _ => fun
  | [d] => { results := [.lit (.bool true)], args := [d] }
  | _ => none }
def fnExactGraphOfPermutationRow : OpenClaim := { program := "ytaadjebiglihlaa", sum := "12a3726d5e7a58852eadf00ede51afc22421f78a2f5999af99387795826a3e60", func := "loop.example/g02081/laws.FnExactGraphOfPermutation", spec := "fnExactGraphOfPermutation", unfollowed := true, recurses := true, apart := false }
def FnExactGraphOfPermutationSaid : Prop := fnExactGraphOfPermutationRow.holds Try.pinned (OpenSpec.ofChange fnExactGraphOfPermutationSpec)

/-- ITS FALSE NEIGHBOUR: 'it returns false'. Refute it at one input. -/
def fnExactGraphOfPermutationWrong : ChangeSpec := { name := "fnExactGraphOfPermutation", fn := fun _ => fun
  | [d] => { results := [.lit (.bool false)], args := [d] }
  | _ => none }
def FnExactGraphOfPermutationWrongFalsely : Prop := fnExactGraphOfPermutationRow.holds Try.pinned (OpenSpec.ofChange fnExactGraphOfPermutationWrong)

/-- 'laws.FnExactGraphOfThreshold': WHATEVER THE INPUT: true; the input reads as it did. -/
def fnExactGraphOfThresholdSpec : ChangeSpec := { name := "fnExactGraphOfThreshold", fn := fun _ => fun
  | [d1, d2] => { results := [.lit (.bool true)], args := [d1, d2] }
  | _ => none }
def fnExactGraphOfThresholdRow : OpenClaim := { program := "ytaadjebiglihlaa", sum := "12a3726d5e7a58852eadf00ede51afc22421f78a2f5999af99387795826a3e60", func := "loop.example/g02081/laws.FnExactGraphOfThreshold", spec := "fnExactGraphOfThreshold", recurses := true, apart := false }
def FnExactGraphOfThresholdSaid : Prop := fnExactGraphOfThresholdRow.holds Try.pinned (OpenSpec.ofChange fnExactGraphOfThresholdSpec)

/-- ITS FALSE NEIGHBOUR: 'it returns false'. Refute it at one input. -/
def fnExactGraphOfThresholdWrong : ChangeSpec := { name := "fnExactGraphOfThreshold", fn := fun _ => fun
  | [d1, d2] => { results := [.lit (.bool false)], args := [d1, d2] }
  | _ => none }
def FnExactGraphOfThresholdWrongFalsely : Prop := fnExactGraphOfThresholdRow.holds Try.pinned (OpenSpec.ofChange fnExactGraphOfThresholdWrong)

/-- 'laws.FnExactDegreesOf': WHATEVER THE INPUT: true; the input reads as it did. -/
def fnExactDegreesOfSpec : ChangeSpec := { name := "fnExactDegreesOf", fn := fun _ => fun
  | [d] => { results := [.lit (.bool true)], args := [d] }
  | _ => none }
def fnExactDegreesOfRow : OpenClaim := { program := "ytaadjebiglihlaa", sum := "12a3726d5e7a58852eadf00ede51afc22421f78a2f5999af99387795826a3e60", func := "loop.example/g02081/laws.FnExactDegreesOf", spec := "fnExactDegreesOf", recurses := true, apart := false }
def FnExactDegreesOfSaid : Prop := fnExactDegreesOfRow.holds Try.pinned (OpenSpec.ofChange fnExactDegreesOfSpec)

/-- ITS FALSE NEIGHBOUR: 'it returns false'. Refute it at one input. -/
def fnExactDegreesOfWrong : ChangeSpec := { name := "fnExactDegreesOf", fn := fun _ => fun
  | [d] => { results := [.lit (.bool false)], args := [d] }
  | _ => none }
def FnExactDegreesOfWrongFalsely : Prop := fnExactDegreesOfRow.holds Try.pinned (OpenSpec.ofChange fnExactDegreesOfWrong)

/-- 'laws.FnExactModuleTreeOf': WHATEVER THE INPUT: true; the input reads as it did. -/
def fnExactModuleTreeOfSpec : ChangeSpec := { name := "fnExactModuleTreeOf", fn := fun _ => fun
  | [d] => { results := [.lit (.bool true)], args := [d] }
  | _ => none }
def fnExactModuleTreeOfRow : OpenClaim := { program := "ytaadjebiglihlaa", sum := "12a3726d5e7a58852eadf00ede51afc22421f78a2f5999af99387795826a3e60", func := "loop.example/g02081/laws.FnExactModuleTreeOf", spec := "fnExactModuleTreeOf", unfollowed := true, recurses := true, apart := false }
def FnExactModuleTreeOfSaid : Prop := fnExactModuleTreeOfRow.holds Try.pinned (OpenSpec.ofChange fnExactModuleTreeOfSpec)

/-- ITS FALSE NEIGHBOUR: 'it returns false'. Refute it at one input. -/
def fnExactModuleTreeOfWrong : ChangeSpec := { name := "fnExactModuleTreeOf", fn := fun _ => fun
  | [d] => { results := [.lit (.bool false)], args := [d] }
  | _ => none }
def FnExactModuleTreeOfWrongFalsely : Prop := fnExactModuleTreeOfRow.holds Try.pinned (OpenSpec.ofChange fnExactModuleTreeOfWrong)

/-- 'laws.FnExactSplitByDegrees': WHATEVER THE INPUT: true; the input reads as it did. -/
def fnExactSplitByDegreesSpec : ChangeSpec := { name := "fnExactSplitByDegrees", fn := fun _ => fun
  | [d] => { results := [.lit (.bool true)], args := [d] }
  | _ => none }
def fnExactSplitByDegreesRow : OpenClaim := { program := "ytaadjebiglihlaa", sum := "12a3726d5e7a58852eadf00ede51afc22421f78a2f5999af99387795826a3e60", func := "loop.example/g02081/laws.FnExactSplitByDegrees", spec := "fnExactSplitByDegrees", recurses := true, apart := false }
def FnExactSplitByDegreesSaid : Prop := fnExactSplitByDegreesRow.holds Try.pinned (OpenSpec.ofChange fnExactSplitByDegreesSpec)

/-- ITS FALSE NEIGHBOUR: 'it returns false'. Refute it at one input. -/
def fnExactSplitByDegreesWrong : ChangeSpec := { name := "fnExactSplitByDegrees", fn := fun _ => fun
  | [d] => { results := [.lit (.bool false)], args := [d] }
  | _ => none }
def FnExactSplitByDegreesWrongFalsely : Prop := fnExactSplitByDegreesRow.holds Try.pinned (OpenSpec.ofChange fnExactSplitByDegreesWrong)

/-- 'laws.FnExactIsModuleTree': WHATEVER THE INPUT: true; the input reads as it did. -/
def fnExactIsModuleTreeSpec : ChangeSpec := { name := "fnExactIsModuleTree", fn := fun _ => fun
  | [d1, d2] => { results := [.lit (.bool true)], args := [d1, d2] }
  | _ => none }
def fnExactIsModuleTreeRow : OpenClaim := { program := "ytaadjebiglihlaa", sum := "12a3726d5e7a58852eadf00ede51afc22421f78a2f5999af99387795826a3e60", func := "loop.example/g02081/laws.FnExactIsModuleTree", spec := "fnExactIsModuleTree", unfollowed := true, recurses := true, apart := false }
def FnExactIsModuleTreeSaid : Prop := fnExactIsModuleTreeRow.holds Try.pinned (OpenSpec.ofChange fnExactIsModuleTreeSpec)

/-- ITS FALSE NEIGHBOUR: 'it returns false'. Refute it at one input. -/
def fnExactIsModuleTreeWrong : ChangeSpec := { name := "fnExactIsModuleTree", fn := fun _ => fun
  | [d1, d2] => { results := [.lit (.bool false)], args := [d1, d2] }
  | _ => none }
def FnExactIsModuleTreeWrongFalsely : Prop := fnExactIsModuleTreeRow.holds Try.pinned (OpenSpec.ofChange fnExactIsModuleTreeWrong)

/- THE SECOND FORM. 'bulk': how many values and letters a reading holds, each counted each time it is reached (what is shared counts as often as it is met; a slice's spare places count too). A statement '..UptoSaid' is the law's where the arguments, and the package variables that the reading takes, are together of bulk at most 1048576: NARROWER than '..Said'. Prove '..Said' where nothing that the law and all that it calls make is longer than what came in: it says more and counts as full. Else prove '..UptoSaid'. A law counts once. -/
mutual
def uptoBulk {H : Type} : DataW H → Nat
  | .lit (.string bytes) => bytes.length + 1
  | .lit _ => 1
  | .nil => 1
  | .ptr d => uptoBulk d + 1
  | .slice elems spare => uptoBulkAll elems + uptoBulkAll spare + 1
  | .agg parts => uptoBulkAll parts + 1
  | .iface _ d => uptoBulk d + 1
  | .map entries => uptoBulkEntries entries + 1
  | .held _ => 1
def uptoBulkAll {H : Type} : List (DataW H) → Nat
  | [] => 0
  | d :: r => uptoBulk d + uptoBulkAll r
def uptoBulkEntries {H : Type} : List (Lit × DataW H) → Nat
  | [] => 0
  | x :: r => uptoBulkEntry x + uptoBulkEntries r
def uptoBulkEntry {H : Type} : Lit × DataW H → Nat
  | (.string bytes, d) => bytes.length + uptoBulk d + 1
  | (_, d) => uptoBulk d + 1
 end
def uptoSmall : (H : Type) → List (DataW H) → Bool := fun _ ds => decide (uptoBulkAll ds ≤ 1048576)
def OpenSpec.upto (s : _root_.Go.ChangeSpec) : _root_.Go.OpenSpec := { _root_.Go.OpenSpec.ofChange s with cond := some uptoSmall }

/-- 'laws.FnExactLongestIncreasing', WHERE WHAT IT READS IS OF BULK AT MOST 1048576: true; the input reads as it did. -/
def fnExactLongestIncreasingUptoRow : OpenClaim := { program := "ytaadjebiglihlaa", sum := "12a3726d5e7a58852eadf00ede51afc22421f78a2f5999af99387795826a3e60", func := "loop.example/g02081/laws.FnExactLongestIncreasing", spec := "fnExactLongestIncreasing", unfollowed := true, recurses := true, apart := false, narrowed := true }
def FnExactLongestIncreasingUptoSaid : Prop := fnExactLongestIncreasingUptoRow.holds Try.pinned (OpenSpec.upto fnExactLongestIncreasingSpec)

/-- 'laws.FnExactGraphOfPermutation', WHERE WHAT IT READS IS OF BULK AT MOST 1048576: true; the input reads as it did. -/
def fnExactGraphOfPermutationUptoRow : OpenClaim := { program := "ytaadjebiglihlaa", sum := "12a3726d5e7a58852eadf00ede51afc22421f78a2f5999af99387795826a3e60", func := "loop.example/g02081/laws.FnExactGraphOfPermutation", spec := "fnExactGraphOfPermutation", unfollowed := true, recurses := true, apart := false, narrowed := true }
def FnExactGraphOfPermutationUptoSaid : Prop := fnExactGraphOfPermutationUptoRow.holds Try.pinned (OpenSpec.upto fnExactGraphOfPermutationSpec)

/-- 'laws.FnExactGraphOfThreshold', WHERE WHAT IT READS IS OF BULK AT MOST 1048576: true; the input reads as it did. -/
def fnExactGraphOfThresholdUptoRow : OpenClaim := { program := "ytaadjebiglihlaa", sum := "12a3726d5e7a58852eadf00ede51afc22421f78a2f5999af99387795826a3e60", func := "loop.example/g02081/laws.FnExactGraphOfThreshold", spec := "fnExactGraphOfThreshold", recurses := true, apart := false, narrowed := true }
def FnExactGraphOfThresholdUptoSaid : Prop := fnExactGraphOfThresholdUptoRow.holds Try.pinned (OpenSpec.upto fnExactGraphOfThresholdSpec)

/-- 'laws.FnExactDegreesOf', WHERE WHAT IT READS IS OF BULK AT MOST 1048576: true; the input reads as it did. -/
def fnExactDegreesOfUptoRow : OpenClaim := { program := "ytaadjebiglihlaa", sum := "12a3726d5e7a58852eadf00ede51afc22421f78a2f5999af99387795826a3e60", func := "loop.example/g02081/laws.FnExactDegreesOf", spec := "fnExactDegreesOf", recurses := true, apart := false, narrowed := true }
def FnExactDegreesOfUptoSaid : Prop := fnExactDegreesOfUptoRow.holds Try.pinned (OpenSpec.upto fnExactDegreesOfSpec)

/-- 'laws.FnExactModuleTreeOf', WHERE WHAT IT READS IS OF BULK AT MOST 1048576: true; the input reads as it did. -/
def fnExactModuleTreeOfUptoRow : OpenClaim := { program := "ytaadjebiglihlaa", sum := "12a3726d5e7a58852eadf00ede51afc22421f78a2f5999af99387795826a3e60", func := "loop.example/g02081/laws.FnExactModuleTreeOf", spec := "fnExactModuleTreeOf", unfollowed := true, recurses := true, apart := false, narrowed := true }
def FnExactModuleTreeOfUptoSaid : Prop := fnExactModuleTreeOfUptoRow.holds Try.pinned (OpenSpec.upto fnExactModuleTreeOfSpec)

/-- 'laws.FnExactSplitByDegrees', WHERE WHAT IT READS IS OF BULK AT MOST 1048576: true; the input reads as it did. -/
def fnExactSplitByDegreesUptoRow : OpenClaim := { program := "ytaadjebiglihlaa", sum := "12a3726d5e7a58852eadf00ede51afc22421f78a2f5999af99387795826a3e60", func := "loop.example/g02081/laws.FnExactSplitByDegrees", spec := "fnExactSplitByDegrees", recurses := true, apart := false, narrowed := true }
def FnExactSplitByDegreesUptoSaid : Prop := fnExactSplitByDegreesUptoRow.holds Try.pinned (OpenSpec.upto fnExactSplitByDegreesSpec)

/-- 'laws.FnExactIsModuleTree', WHERE WHAT IT READS IS OF BULK AT MOST 1048576: true; the input reads as it did. -/
def fnExactIsModuleTreeUptoRow : OpenClaim := { program := "ytaadjebiglihlaa", sum := "12a3726d5e7a58852eadf00ede51afc22421f78a2f5999af99387795826a3e60", func := "loop.example/g02081/laws.FnExactIsModuleTree", spec := "fnExactIsModuleTree", unfollowed := true, recurses := true, apart := false, narrowed := true }
def FnExactIsModuleTreeUptoSaid : Prop := fnExactIsModuleTreeUptoRow.holds Try.pinned (OpenSpec.upto fnExactIsModuleTreeSpec)

end Rows
end Go.Proofs.Ytaadjebiglihlaa
