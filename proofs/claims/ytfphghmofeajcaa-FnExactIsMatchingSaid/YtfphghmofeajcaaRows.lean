/-
  No cell of these rows narrows 'for every input' (looked for: loops, veiled, ifaces, maps, wideKeys, modest, calm, conditions, laid).
  DERIVED. THE GIVEN ROWS OF THIS SEAT. 12 by the template 'for every input the law returns true; each argument reads behind the call as it read before'; 0 by the template 'total and deterministic' (their statements: YtfphghmofeajcaaTotals.lean).
  GIVEN WITH THE SEED: the statements are not yours to turn. If you find one false, say at which input.
  Laid BY PROGRAM, IN A SANDBOX (cutbox-rows.mjs): the forced cells as the released guide's own fill.sh prints them over the translation 229b988e31146f71… (all of the seat's roots in one cut). By AI agents, Wed Nov 11 2026. No macro, syntax, notation, axiom, sorry.
-/
import Derived.Test.YtfphghmofeajcaaChecked
import GoSem.Claim
import GoSem.ClaimJoined
import GoSem.ClaimMapViews
import Derived.JoinedTies
import Derived.KernelRfl
namespace Go.Proofs.Ytfphghmofeajcaa
/- THE CELL 'sum', in the pinned program and in every row, IS THE sha256 OF THE DUMP (.gsa) THAT YtfphghmofeajcaaProg.lean LOADS. Nothing in Lean hashes anything: it is a label: what it is worth is what the hold of that sum in a sandbox is worth. -/
noncomputable def Try.pinned : Pinned := { name := "ytfphghmofeajcaa", sum := "229b988e31146f71e96d5efa0a633f5543ef323cc1fbe2e3ffae9d879dcfcff8", checked := Try.checked }
namespace Rows
def none {H : Type} : Left H := { results := [], args := [] }

/-- 'laws.FnExactIsOddCycle': WHATEVER THE INPUT: true; the input reads as it did. -/
def fnExactIsOddCycleSpec : ChangeSpec := { name := "fnExactIsOddCycle", fn := fun _ => fun
  | [d1, d2] => { results := [.lit (.bool true)], args := [d1, d2] }
  | _ => none }
def fnExactIsOddCycleRow : OpenClaim := { program := "ytfphghmofeajcaa", sum := "229b988e31146f71e96d5efa0a633f5543ef323cc1fbe2e3ffae9d879dcfcff8", func := "loop.example/g02081/laws.FnExactIsOddCycle", spec := "fnExactIsOddCycle", apart := false }
def FnExactIsOddCycleSaid : Prop := fnExactIsOddCycleRow.holds Try.pinned (OpenSpec.ofChange fnExactIsOddCycleSpec)

/-- ITS FALSE NEIGHBOUR: 'it returns false'. Refute it at one input. -/
def fnExactIsOddCycleWrong : ChangeSpec := { name := "fnExactIsOddCycle", fn := fun _ => fun
  | [d1, d2] => { results := [.lit (.bool false)], args := [d1, d2] }
  | _ => none }
def FnExactIsOddCycleWrongFalsely : Prop := fnExactIsOddCycleRow.holds Try.pinned (OpenSpec.ofChange fnExactIsOddCycleWrong)

/-- 'laws.FnExactIsSplitPartition': WHATEVER THE INPUT: true; the input reads as it did. -/
def fnExactIsSplitPartitionSpec : ChangeSpec := { name := "fnExactIsSplitPartition", fn := fun _ => fun
  | [d1, d2] => { results := [.lit (.bool true)], args := [d1, d2] }
  | _ => none }
def fnExactIsSplitPartitionRow : OpenClaim := { program := "ytfphghmofeajcaa", sum := "229b988e31146f71e96d5efa0a633f5543ef323cc1fbe2e3ffae9d879dcfcff8", func := "loop.example/g02081/laws.FnExactIsSplitPartition", spec := "fnExactIsSplitPartition", apart := false }
def FnExactIsSplitPartitionSaid : Prop := fnExactIsSplitPartitionRow.holds Try.pinned (OpenSpec.ofChange fnExactIsSplitPartitionSpec)

/-- ITS FALSE NEIGHBOUR: 'it returns false'. Refute it at one input. -/
def fnExactIsSplitPartitionWrong : ChangeSpec := { name := "fnExactIsSplitPartition", fn := fun _ => fun
  | [d1, d2] => { results := [.lit (.bool false)], args := [d1, d2] }
  | _ => none }
def FnExactIsSplitPartitionWrongFalsely : Prop := fnExactIsSplitPartitionRow.holds Try.pinned (OpenSpec.ofChange fnExactIsSplitPartitionWrong)

/-- 'laws.FnExactIsMatching': WHATEVER THE INPUT: true; the input reads as it did. -/
def fnExactIsMatchingSpec : ChangeSpec := { name := "fnExactIsMatching", fn := fun _ => fun
  | [d1, d2] => { results := [.lit (.bool true)], args := [d1, d2] }
  | _ => none }
def fnExactIsMatchingRow : OpenClaim := { program := "ytfphghmofeajcaa", sum := "229b988e31146f71e96d5efa0a633f5543ef323cc1fbe2e3ffae9d879dcfcff8", func := "loop.example/g02081/laws.FnExactIsMatching", spec := "fnExactIsMatching", apart := false }
def FnExactIsMatchingSaid : Prop := fnExactIsMatchingRow.holds Try.pinned (OpenSpec.ofChange fnExactIsMatchingSpec)

/-- ITS FALSE NEIGHBOUR: 'it returns false'. Refute it at one input. -/
def fnExactIsMatchingWrong : ChangeSpec := { name := "fnExactIsMatching", fn := fun _ => fun
  | [d1, d2] => { results := [.lit (.bool false)], args := [d1, d2] }
  | _ => none }
def FnExactIsMatchingWrongFalsely : Prop := fnExactIsMatchingRow.holds Try.pinned (OpenSpec.ofChange fnExactIsMatchingWrong)

/-- 'laws.FnExactIsPermutationModel': WHATEVER THE INPUT: true; the input reads as it did. -/
def fnExactIsPermutationModelSpec : ChangeSpec := { name := "fnExactIsPermutationModel", fn := fun _ => fun
  | [d1, d2, d3] => { results := [.lit (.bool true)], args := [d1, d2, d3] }
  | _ => none }
def fnExactIsPermutationModelRow : OpenClaim := { program := "ytfphghmofeajcaa", sum := "229b988e31146f71e96d5efa0a633f5543ef323cc1fbe2e3ffae9d879dcfcff8", func := "loop.example/g02081/laws.FnExactIsPermutationModel", spec := "fnExactIsPermutationModel", apart := false }
def FnExactIsPermutationModelSaid : Prop := fnExactIsPermutationModelRow.holds Try.pinned (OpenSpec.ofChange fnExactIsPermutationModelSpec)

/-- ITS FALSE NEIGHBOUR: 'it returns false'. Refute it at one input. -/
def fnExactIsPermutationModelWrong : ChangeSpec := { name := "fnExactIsPermutationModel", fn := fun _ => fun
  | [d1, d2, d3] => { results := [.lit (.bool false)], args := [d1, d2, d3] }
  | _ => none }
def FnExactIsPermutationModelWrongFalsely : Prop := fnExactIsPermutationModelRow.holds Try.pinned (OpenSpec.ofChange fnExactIsPermutationModelWrong)

/-- 'laws.FnExactCoverOf': WHATEVER THE INPUT: true; the input reads as it did. -/
def fnExactCoverOfSpec : ChangeSpec := { name := "fnExactCoverOf", fn := fun _ => fun
  | [d] => { results := [.lit (.bool true)], args := [d] }
  | _ => none }
def fnExactCoverOfRow : OpenClaim := { program := "ytfphghmofeajcaa", sum := "229b988e31146f71e96d5efa0a633f5543ef323cc1fbe2e3ffae9d879dcfcff8", func := "loop.example/g02081/laws.FnExactCoverOf", spec := "fnExactCoverOf", unfollowed := true, recurses := true, apart := false }
def FnExactCoverOfSaid : Prop := fnExactCoverOfRow.holds Try.pinned (OpenSpec.ofChange fnExactCoverOfSpec)

/-- ITS FALSE NEIGHBOUR: 'it returns false'. Refute it at one input. -/
def fnExactCoverOfWrong : ChangeSpec := { name := "fnExactCoverOf", fn := fun _ => fun
  | [d] => { results := [.lit (.bool false)], args := [d] }
  | _ => none }
def FnExactCoverOfWrongFalsely : Prop := fnExactCoverOfRow.holds Try.pinned (OpenSpec.ofChange fnExactCoverOfWrong)

/-- 'laws.FnExactIsPrime': WHATEVER THE INPUT: true; the input reads as it did. -/
def fnExactIsPrimeSpec : ChangeSpec := { name := "fnExactIsPrime", fn := fun _ => fun
  | [d] => { results := [.lit (.bool true)], args := [d] }
  | _ => none }
def fnExactIsPrimeRow : OpenClaim := { program := "ytfphghmofeajcaa", sum := "229b988e31146f71e96d5efa0a633f5543ef323cc1fbe2e3ffae9d879dcfcff8", func := "loop.example/g02081/laws.FnExactIsPrime", spec := "fnExactIsPrime", apart := false }
def FnExactIsPrimeSaid : Prop := fnExactIsPrimeRow.holds Try.pinned (OpenSpec.ofChange fnExactIsPrimeSpec)

/-- ITS FALSE NEIGHBOUR: 'it returns false'. Refute it at one input. -/
def fnExactIsPrimeWrong : ChangeSpec := { name := "fnExactIsPrime", fn := fun _ => fun
  | [d] => { results := [.lit (.bool false)], args := [d] }
  | _ => none }
def FnExactIsPrimeWrongFalsely : Prop := fnExactIsPrimeRow.holds Try.pinned (OpenSpec.ofChange fnExactIsPrimeWrong)

/-- 'laws.FnExactIsSplitObstacle': WHATEVER THE INPUT: true; the input reads as it did. -/
def fnExactIsSplitObstacleSpec : ChangeSpec := { name := "fnExactIsSplitObstacle", fn := fun _ => fun
  | [d1, d2] => { results := [.lit (.bool true)], args := [d1, d2] }
  | _ => none }
def fnExactIsSplitObstacleRow : OpenClaim := { program := "ytfphghmofeajcaa", sum := "229b988e31146f71e96d5efa0a633f5543ef323cc1fbe2e3ffae9d879dcfcff8", func := "loop.example/g02081/laws.FnExactIsSplitObstacle", spec := "fnExactIsSplitObstacle", unfollowed := true, recurses := true, apart := false }
def FnExactIsSplitObstacleSaid : Prop := fnExactIsSplitObstacleRow.holds Try.pinned (OpenSpec.ofChange fnExactIsSplitObstacleSpec)

/-- ITS FALSE NEIGHBOUR: 'it returns false'. Refute it at one input. -/
def fnExactIsSplitObstacleWrong : ChangeSpec := { name := "fnExactIsSplitObstacle", fn := fun _ => fun
  | [d1, d2] => { results := [.lit (.bool false)], args := [d1, d2] }
  | _ => none }
def FnExactIsSplitObstacleWrongFalsely : Prop := fnExactIsSplitObstacleRow.holds Try.pinned (OpenSpec.ofChange fnExactIsSplitObstacleWrong)

/-- 'laws.FnExactLeastModule': WHATEVER THE INPUT: true; the input reads as it did. -/
def fnExactLeastModuleSpec : ChangeSpec := { name := "fnExactLeastModule", fn := fun _ => fun
  | [d1, d2] => { results := [.lit (.bool true)], args := [d1, d2] }
  | _ => none }
def fnExactLeastModuleRow : OpenClaim := { program := "ytfphghmofeajcaa", sum := "229b988e31146f71e96d5efa0a633f5543ef323cc1fbe2e3ffae9d879dcfcff8", func := "loop.example/g02081/laws.FnExactLeastModule", spec := "fnExactLeastModule", apart := false }
def FnExactLeastModuleSaid : Prop := fnExactLeastModuleRow.holds Try.pinned (OpenSpec.ofChange fnExactLeastModuleSpec)

/-- ITS FALSE NEIGHBOUR: 'it returns false'. Refute it at one input. -/
def fnExactLeastModuleWrong : ChangeSpec := { name := "fnExactLeastModule", fn := fun _ => fun
  | [d1, d2] => { results := [.lit (.bool false)], args := [d1, d2] }
  | _ => none }
def FnExactLeastModuleWrongFalsely : Prop := fnExactLeastModuleRow.holds Try.pinned (OpenSpec.ofChange fnExactLeastModuleWrong)

/-- 'laws.FnExactTwinsOf': WHATEVER THE INPUT: true; the input reads as it did. -/
def fnExactTwinsOfSpec : ChangeSpec := { name := "fnExactTwinsOf", fn := fun _ => fun
  | [d1, d2] => { results := [.lit (.bool true)], args := [d1, d2] }
  | _ => none }
def fnExactTwinsOfRow : OpenClaim := { program := "ytfphghmofeajcaa", sum := "229b988e31146f71e96d5efa0a633f5543ef323cc1fbe2e3ffae9d879dcfcff8", func := "loop.example/g02081/laws.FnExactTwinsOf", spec := "fnExactTwinsOf", apart := false }
def FnExactTwinsOfSaid : Prop := fnExactTwinsOfRow.holds Try.pinned (OpenSpec.ofChange fnExactTwinsOfSpec)

/-- ITS FALSE NEIGHBOUR: 'it returns false'. Refute it at one input. -/
def fnExactTwinsOfWrong : ChangeSpec := { name := "fnExactTwinsOf", fn := fun _ => fun
  | [d1, d2] => { results := [.lit (.bool false)], args := [d1, d2] }
  | _ => none }
def FnExactTwinsOfWrongFalsely : Prop := fnExactTwinsOfRow.holds Try.pinned (OpenSpec.ofChange fnExactTwinsOfWrong)

/-- 'laws.FnExactSplitOf': WHATEVER THE INPUT: true; the input reads as it did. -/
def fnExactSplitOfSpec : ChangeSpec := { name := "fnExactSplitOf", fn := fun _ => fun
  | [d] => { results := [.lit (.bool true)], args := [d] }
  | _ => none }
def fnExactSplitOfRow : OpenClaim := { program := "ytfphghmofeajcaa", sum := "229b988e31146f71e96d5efa0a633f5543ef323cc1fbe2e3ffae9d879dcfcff8", func := "loop.example/g02081/laws.FnExactSplitOf", spec := "fnExactSplitOf", unfollowed := true, recurses := true, apart := false }
def FnExactSplitOfSaid : Prop := fnExactSplitOfRow.holds Try.pinned (OpenSpec.ofChange fnExactSplitOfSpec)

/-- ITS FALSE NEIGHBOUR: 'it returns false'. Refute it at one input. -/
def fnExactSplitOfWrong : ChangeSpec := { name := "fnExactSplitOf", fn := fun _ => fun
  | [d] => { results := [.lit (.bool false)], args := [d] }
  | _ => none }
def FnExactSplitOfWrongFalsely : Prop := fnExactSplitOfRow.holds Try.pinned (OpenSpec.ofChange fnExactSplitOfWrong)

/-- 'laws.FnExactIsThreshold': WHATEVER THE INPUT: true; the input reads as it did. -/
def fnExactIsThresholdSpec : ChangeSpec := { name := "fnExactIsThreshold", fn := fun _ => fun
  | [d] => { results := [.lit (.bool true)], args := [d] }
  | _ => none }
def fnExactIsThresholdRow : OpenClaim := { program := "ytfphghmofeajcaa", sum := "229b988e31146f71e96d5efa0a633f5543ef323cc1fbe2e3ffae9d879dcfcff8", func := "loop.example/g02081/laws.FnExactIsThreshold", spec := "fnExactIsThreshold", apart := false }
def FnExactIsThresholdSaid : Prop := fnExactIsThresholdRow.holds Try.pinned (OpenSpec.ofChange fnExactIsThresholdSpec)

/-- ITS FALSE NEIGHBOUR: 'it returns false'. Refute it at one input. -/
def fnExactIsThresholdWrong : ChangeSpec := { name := "fnExactIsThreshold", fn := fun _ => fun
  | [d] => { results := [.lit (.bool false)], args := [d] }
  | _ => none }
def FnExactIsThresholdWrongFalsely : Prop := fnExactIsThresholdRow.holds Try.pinned (OpenSpec.ofChange fnExactIsThresholdWrong)

/-- 'laws.FnExactIsSplit': WHATEVER THE INPUT: true; the input reads as it did. -/
def fnExactIsSplitSpec : ChangeSpec := { name := "fnExactIsSplit", fn := fun _ => fun
  | [d] => { results := [.lit (.bool true)], args := [d] }
  | _ => none }
def fnExactIsSplitRow : OpenClaim := { program := "ytfphghmofeajcaa", sum := "229b988e31146f71e96d5efa0a633f5543ef323cc1fbe2e3ffae9d879dcfcff8", func := "loop.example/g02081/laws.FnExactIsSplit", spec := "fnExactIsSplit", unfollowed := true, recurses := true, apart := false }
def FnExactIsSplitSaid : Prop := fnExactIsSplitRow.holds Try.pinned (OpenSpec.ofChange fnExactIsSplitSpec)

/-- ITS FALSE NEIGHBOUR: 'it returns false'. Refute it at one input. -/
def fnExactIsSplitWrong : ChangeSpec := { name := "fnExactIsSplit", fn := fun _ => fun
  | [d] => { results := [.lit (.bool false)], args := [d] }
  | _ => none }
def FnExactIsSplitWrongFalsely : Prop := fnExactIsSplitRow.holds Try.pinned (OpenSpec.ofChange fnExactIsSplitWrong)

/- THE SECOND FORM. 'bulk': how many values and letters a reading holds, each counted each time it is reached (what is shared counts as often as it is met; a slice's spare places count too). A statement '..UptoSaid' is the law's where the arguments, and the package variables that the reading takes, are together of bulk at most 1048576: NARROWER than '..Said'. Prove '..Said' where nothing that the law and all that it calls make is longer than what came in: it says more and counts as full. Else prove '..UptoSaid'. A law counts once. -/
mutual
def uptoBulk {H : Type} : DataW H → Nat
  | .lit (.string bytes) => bytes.length + 1
  | .lit _ => 1
  | .nil => 1
  | .ptr d => uptoBulk d + 1
  | .slice elems spare => uptoBulkAll elems + uptoBulkAll spare + 1
  | .agg parts => uptoBulkAll parts + 1
  | .iface _ d => uptoBulk d + 1
  | .map entries => uptoBulkEntries entries + 1
  | .held _ => 1
def uptoBulkAll {H : Type} : List (DataW H) → Nat
  | [] => 0
  | d :: r => uptoBulk d + uptoBulkAll r
def uptoBulkEntries {H : Type} : List (Lit × DataW H) → Nat
  | [] => 0
  | x :: r => uptoBulkEntry x + uptoBulkEntries r
def uptoBulkEntry {H : Type} : Lit × DataW H → Nat
  | (.string bytes, d) => bytes.length + uptoBulk d + 1
  | (_, d) => uptoBulk d + 1
 end
def uptoSmall : (H : Type) → List (DataW H) → Bool := fun _ ds => decide (uptoBulkAll ds ≤ 1048576)
def OpenSpec.upto (s : _root_.Go.ChangeSpec) : _root_.Go.OpenSpec := { _root_.Go.OpenSpec.ofChange s with cond := some uptoSmall }

/-- 'laws.FnExactIsOddCycle', WHERE WHAT IT READS IS OF BULK AT MOST 1048576: true; the input reads as it did. -/
def fnExactIsOddCycleUptoRow : OpenClaim := { program := "ytfphghmofeajcaa", sum := "229b988e31146f71e96d5efa0a633f5543ef323cc1fbe2e3ffae9d879dcfcff8", func := "loop.example/g02081/laws.FnExactIsOddCycle", spec := "fnExactIsOddCycle", apart := false, narrowed := true }
def FnExactIsOddCycleUptoSaid : Prop := fnExactIsOddCycleUptoRow.holds Try.pinned (OpenSpec.upto fnExactIsOddCycleSpec)

/-- 'laws.FnExactIsSplitPartition', WHERE WHAT IT READS IS OF BULK AT MOST 1048576: true; the input reads as it did. -/
def fnExactIsSplitPartitionUptoRow : OpenClaim := { program := "ytfphghmofeajcaa", sum := "229b988e31146f71e96d5efa0a633f5543ef323cc1fbe2e3ffae9d879dcfcff8", func := "loop.example/g02081/laws.FnExactIsSplitPartition", spec := "fnExactIsSplitPartition", apart := false, narrowed := true }
def FnExactIsSplitPartitionUptoSaid : Prop := fnExactIsSplitPartitionUptoRow.holds Try.pinned (OpenSpec.upto fnExactIsSplitPartitionSpec)

/-- 'laws.FnExactIsMatching', WHERE WHAT IT READS IS OF BULK AT MOST 1048576: true; the input reads as it did. -/
def fnExactIsMatchingUptoRow : OpenClaim := { program := "ytfphghmofeajcaa", sum := "229b988e31146f71e96d5efa0a633f5543ef323cc1fbe2e3ffae9d879dcfcff8", func := "loop.example/g02081/laws.FnExactIsMatching", spec := "fnExactIsMatching", apart := false, narrowed := true }
def FnExactIsMatchingUptoSaid : Prop := fnExactIsMatchingUptoRow.holds Try.pinned (OpenSpec.upto fnExactIsMatchingSpec)

/-- 'laws.FnExactIsPermutationModel', WHERE WHAT IT READS IS OF BULK AT MOST 1048576: true; the input reads as it did. -/
def fnExactIsPermutationModelUptoRow : OpenClaim := { program := "ytfphghmofeajcaa", sum := "229b988e31146f71e96d5efa0a633f5543ef323cc1fbe2e3ffae9d879dcfcff8", func := "loop.example/g02081/laws.FnExactIsPermutationModel", spec := "fnExactIsPermutationModel", apart := false, narrowed := true }
def FnExactIsPermutationModelUptoSaid : Prop := fnExactIsPermutationModelUptoRow.holds Try.pinned (OpenSpec.upto fnExactIsPermutationModelSpec)

/-- 'laws.FnExactCoverOf', WHERE WHAT IT READS IS OF BULK AT MOST 1048576: true; the input reads as it did. -/
def fnExactCoverOfUptoRow : OpenClaim := { program := "ytfphghmofeajcaa", sum := "229b988e31146f71e96d5efa0a633f5543ef323cc1fbe2e3ffae9d879dcfcff8", func := "loop.example/g02081/laws.FnExactCoverOf", spec := "fnExactCoverOf", unfollowed := true, recurses := true, apart := false, narrowed := true }
def FnExactCoverOfUptoSaid : Prop := fnExactCoverOfUptoRow.holds Try.pinned (OpenSpec.upto fnExactCoverOfSpec)

/-- 'laws.FnExactIsPrime', WHERE WHAT IT READS IS OF BULK AT MOST 1048576: true; the input reads as it did. -/
def fnExactIsPrimeUptoRow : OpenClaim := { program := "ytfphghmofeajcaa", sum := "229b988e31146f71e96d5efa0a633f5543ef323cc1fbe2e3ffae9d879dcfcff8", func := "loop.example/g02081/laws.FnExactIsPrime", spec := "fnExactIsPrime", apart := false, narrowed := true }
def FnExactIsPrimeUptoSaid : Prop := fnExactIsPrimeUptoRow.holds Try.pinned (OpenSpec.upto fnExactIsPrimeSpec)

/-- 'laws.FnExactIsSplitObstacle', WHERE WHAT IT READS IS OF BULK AT MOST 1048576: true; the input reads as it did. -/
def fnExactIsSplitObstacleUptoRow : OpenClaim := { program := "ytfphghmofeajcaa", sum := "229b988e31146f71e96d5efa0a633f5543ef323cc1fbe2e3ffae9d879dcfcff8", func := "loop.example/g02081/laws.FnExactIsSplitObstacle", spec := "fnExactIsSplitObstacle", unfollowed := true, recurses := true, apart := false, narrowed := true }
def FnExactIsSplitObstacleUptoSaid : Prop := fnExactIsSplitObstacleUptoRow.holds Try.pinned (OpenSpec.upto fnExactIsSplitObstacleSpec)

/-- 'laws.FnExactLeastModule', WHERE WHAT IT READS IS OF BULK AT MOST 1048576: true; the input reads as it did. -/
def fnExactLeastModuleUptoRow : OpenClaim := { program := "ytfphghmofeajcaa", sum := "229b988e31146f71e96d5efa0a633f5543ef323cc1fbe2e3ffae9d879dcfcff8", func := "loop.example/g02081/laws.FnExactLeastModule", spec := "fnExactLeastModule", apart := false, narrowed := true }
def FnExactLeastModuleUptoSaid : Prop := fnExactLeastModuleUptoRow.holds Try.pinned (OpenSpec.upto fnExactLeastModuleSpec)

/-- 'laws.FnExactTwinsOf', WHERE WHAT IT READS IS OF BULK AT MOST 1048576: true; the input reads as it did. -/
def fnExactTwinsOfUptoRow : OpenClaim := { program := "ytfphghmofeajcaa", sum := "229b988e31146f71e96d5efa0a633f5543ef323cc1fbe2e3ffae9d879dcfcff8", func := "loop.example/g02081/laws.FnExactTwinsOf", spec := "fnExactTwinsOf", apart := false, narrowed := true }
def FnExactTwinsOfUptoSaid : Prop := fnExactTwinsOfUptoRow.holds Try.pinned (OpenSpec.upto fnExactTwinsOfSpec)

/-- 'laws.FnExactSplitOf', WHERE WHAT IT READS IS OF BULK AT MOST 1048576: true; the input reads as it did. -/
def fnExactSplitOfUptoRow : OpenClaim := { program := "ytfphghmofeajcaa", sum := "229b988e31146f71e96d5efa0a633f5543ef323cc1fbe2e3ffae9d879dcfcff8", func := "loop.example/g02081/laws.FnExactSplitOf", spec := "fnExactSplitOf", unfollowed := true, recurses := true, apart := false, narrowed := true }
def FnExactSplitOfUptoSaid : Prop := fnExactSplitOfUptoRow.holds Try.pinned (OpenSpec.upto fnExactSplitOfSpec)

/-- 'laws.FnExactIsThreshold', WHERE WHAT IT READS IS OF BULK AT MOST 1048576: true; the input reads as it did. -/
def fnExactIsThresholdUptoRow : OpenClaim := { program := "ytfphghmofeajcaa", sum := "229b988e31146f71e96d5efa0a633f5543ef323cc1fbe2e3ffae9d879dcfcff8", func := "loop.example/g02081/laws.FnExactIsThreshold", spec := "fnExactIsThreshold", apart := false, narrowed := true }
def FnExactIsThresholdUptoSaid : Prop := fnExactIsThresholdUptoRow.holds Try.pinned (OpenSpec.upto fnExactIsThresholdSpec)

/-- 'laws.FnExactIsSplit', WHERE WHAT IT READS IS OF BULK AT MOST 1048576: true; the input reads as it did. -/
def fnExactIsSplitUptoRow : OpenClaim := { program := "ytfphghmofeajcaa", sum := "229b988e31146f71e96d5efa0a633f5543ef323cc1fbe2e3ffae9d879dcfcff8", func := "loop.example/g02081/laws.FnExactIsSplit", spec := "fnExactIsSplit", unfollowed := true, recurses := true, apart := false, narrowed := true }
def FnExactIsSplitUptoSaid : Prop := fnExactIsSplitUptoRow.holds Try.pinned (OpenSpec.upto fnExactIsSplitSpec)

end Rows
end Go.Proofs.Ytfphghmofeajcaa
